-- printed by a program of this claim's own
import Derived.Test.YtjbpflfihdabhaaPFnFiltersInWordsx0
import Derived.Test.YtjbpflfihdabhaaPFnFiltersInWordsx1
import Derived.Test.YtjbpflfihdabhaaPFnFiltersInWordsx3
import Derived.Test.YtjbpflfihdabhaaPFnFiltersInWordsx4
import Derived.Test.YtjbpflfihdabhaaPFnFiltersInWordsx8
import Derived.Test.YtjbpflfihdabhaaPFnFiltersInWordsx9
import Derived.Test.YtjbpflfihdabhaaPFnFiltersInWordsx10
import Derived.Test.YtjbpflfihdabhaaPFnFiltersInWordsx11
import Derived.Test.YtjbpflfihdabhaaPFnFiltersInWordsx12
namespace Go.Proofs.Ytjbpflfihdabhaa.PFnFiltersInWords
open Go.RowKit Go.Proofs.YtjbpflfihdabhaaW.PrintWords Go.Proofs.YtjbpflfihdabhaaW.PrintLast Go.Proofs.YtjbpflfihdabhaaW.PrintMore Go.Proofs.Ytjbpflfihdabhaa.Cuts
attribute [local go_sem] max2_int min2_int max_two min_two max_three min_three max_four min_four   -- for this text's walks alone
set_option linter.unusedVariables false
set_option linter.unusedSimpArgs false

/-! ### laws_FnFiltersInWords: function 4 -/
mutual
def laws_FnFiltersInWords.j2 : Nat → List Int → Option (Bool)
 | 0, _ => none
 | k + 1, x1 => (spec_DrawBitsNeeded.f k x1).bind fun bt491 => ((impl_BitsNeeded.f k bt491.1 bt491.2.1 bt491.2.2).bind fun bt497 => ((spec_BitsNeeded.f k bt491.1 bt491.2.1 bt491.2.2).bind fun bt499 => (if (bt497.2 != bt499.2) = true then (some false) else (if bt497.1 = bt499.1 then (if bt497.2 = true then ((impl_SizeGain.f k bt491.1).bind fun bt501 => ((impl_RangeOf.f bt491.2.1 bt491.2.2).bind fun bt503 => (if bt501.2 = true then (if bt503.2.2 = true then (if 0 ≤ (wrap64 (bt497.1 - 1)) then (if (wrap64 (bt501.1 * (wrap64 (-bt503.1)))) > (wrap64 ((shl .i64 1 (wrap64 (bt497.1 - 1))) + bt501.1)) then (some false) else (if bt497.1 > 2 then (if 0 ≤ (wrap64 (bt497.1 - 2)) then (if (wrap64 (bt501.1 * (wrap64 ((wrap64 (-bt503.1)) - 1)))) < (wrap64 ((shl .i64 1 (wrap64 (bt497.1 - 2))) - bt501.1)) then (if bt501.1 > 0 then (if (wrap64 (bt501.1 * (wrap64 (-bt503.1)))) < (shl .i64 1 (wrap64 (bt497.1 - 2))) then (some false) else (some true)) else (some true)) else (some true)) else (none)) else (some true))) else (none)) else (some false)) else (some false)))) else (some true)) else (some false)))))
def laws_FnFiltersInWords.l0 : Nat → List Int → List Int → Int → Int → List Int → List Int → List Int → Bool → Int → Int → Int → Int → Int → Bool → Option (Bool)
 | 0, _, _, _, _, _, _, _, _, _, _, _, _, _, _ => none
 | k + 1, x1, x6, x8, x9, x10, x14, x18, x19, x20, x21, x145, x146, x450000, x450001 => if x146 < x145 then (if 0 ≤ x146 then (if x146 < (x10.length : Int) then (if (rd x10 x146) < x20 then (some false) else (if (rd x10 x146) > x21 then (some false) else (if x146 < (x14.length : Int) then (if (rd x14 x146) < x20 then (some false) else (if (rd x14 x146) > x21 then (some false) else (laws_FnFiltersInWords.l0 k x1 x6 x8 x9 x10 x14 x18 x19 x20 x21 x145 (wrap64 (x146 + 1)) x450000 x450001))) else (none)))) else (none)) else (none)) else (if x19 = true then (laws_FnFiltersInWords.l1 k x1 x6 x8 x9 x10 x14 x18 x18 (x18.length : Int) 0 x450000 x450001) else (laws_FnFiltersInWords.j2 k x1))
def laws_FnFiltersInWords.l1 : Nat → List Int → List Int → Int → Int → List Int → List Int → List Int → List Int → Int → Int → Int → Bool → Option (Bool)
 | 0, _, _, _, _, _, _, _, _, _, _, _, _ => none
 | k + 1, x1, x6, x8, x9, x10, x14, x18, x181, x182, x183, x450000, x450001 => if x183 < x182 then (if 0 ≤ x183 then (if x183 < (x181.length : Int) then ((impl_RoundShift.f k (rd x181 x183) x8 x9).bind fun bt480 => ((impl_FitNumber.f x450000 x450001 bt480.1).bind fun bt482 => (if bt480.2 = true then (if bt482.2 = true then (if x183 < (x14.length : Int) then (if (rd x14 x183) = bt482.1 then (if x8 = 0 then (if x450001 = true then (if x183 < (x10.length : Int) then ((laws_iWrap.f (rd x181 x183) x450000).bind fun t486 => (if (rd x10 x183) = t486 then (laws_FnFiltersInWords.l1 k x1 x6 x8 x9 x10 x14 x18 x181 x182 (wrap64 (x183 + 1)) x450000 x450001) else (some false))) else (none)) else (laws_FnFiltersInWords.l1 k x1 x6 x8 x9 x10 x14 x18 x181 x182 (wrap64 (x183 + 1)) x450000 x450001)) else (laws_FnFiltersInWords.l1 k x1 x6 x8 x9 x10 x14 x18 x181 x182 (wrap64 (x183 + 1)) x450000 x450001)) else (some false)) else (none)) else (some false)) else (some false)))) else (none)) else (none)) else ((impl_BitsNeeded.f k x6 x450000 x450001).bind fun bt487 => (if bt487.2 = true then (if bt487.1 ≤ x450000 then (if x8 = 0 then ((laws_iSame.f k x10 x18).bind fun t489 => (if t489 = true then ((laws_iSame.f k x14 x18).bind fun t490 => (if t490 = true then (laws_FnFiltersInWords.j2 k x1) else (some false))) else (some false))) else (laws_FnFiltersInWords.j2 k x1)) else (laws_FnFiltersInWords.j2 k x1)) else (laws_FnFiltersInWords.j2 k x1)))
end
def laws_FnFiltersInWords.f (k : Nat) (l0 : List Int) (l1 : List Int) : Option (Bool) := (laws_big.f l0 l1).bind fun t438 => (if t438 = true then (some true) else ((spec_DrawFilterInWord.f k l0).bind fun bt439 => ((impl_FilterInWord.f k bt439.1 bt439.2.1 bt439.2.2.1 bt439.2.2.2.1 bt439.2.2.2.2.1 bt439.2.2.2.2.2).bind fun bt450 => ((spec_FilterInWord.f k bt439.1 bt439.2.1 bt439.2.2.1 bt439.2.2.2.1 bt439.2.2.2.2.1 bt439.2.2.2.2.2).bind fun bt454 => ((impl_FilterAtEnd.f k bt439.1 bt439.2.1 bt439.2.2.1 bt439.2.2.2.1 bt439.2.2.2.2.1 bt439.2.2.2.2.2).bind fun bt458 => ((spec_FilterAtEnd.f k bt439.1 bt439.2.1 bt439.2.2.1 bt439.2.2.2.1 bt439.2.2.2.2.1 bt439.2.2.2.2.2).bind fun bt462 => (if (bt450.2 != bt454.2) = true then (some false) else ((laws_iSame.f k bt450.1 bt454.1).bind fun t466 => (if t466 = true then (if (bt458.2 != bt462.2) = true then (some false) else ((laws_iSame.f k bt458.1 bt462.1).bind fun t467 => (if t467 = true then (if (bt458.2 != bt450.2) = true then (some false) else (if bt450.2 = true then ((impl_FilterShort.f k bt439.2.2.1 bt439.2.2.2.1).bind fun bt468 => ((impl_RangeOf.f bt439.1 bt439.2.1).bind fun bt472 => (if bt472.2.2 = true then (if (bt450.1.length : Int) = (bt439.2.2.2.1.length : Int) then (if (bt458.1.length : Int) = (bt439.2.2.2.1.length : Int) then (laws_FnFiltersInWords.l0 k l1 bt439.2.2.1 bt439.2.2.2.2.1 bt439.2.2.2.2.2 bt450.1 bt458.1 bt468.1 bt468.2 bt472.1 bt472.2.1 (bt450.1.length : Int) 0 bt439.1 bt439.2.1) else (some false)) else (some false)) else (some false)))) else (laws_FnFiltersInWords.j2 k l1))) else (some false)))) else (some false))))))))))

def laws_FnFiltersInWords.T27 : Bool × List (List Nat × List Nat) := (true, [([], []), ([0], [0]), ([1], [1]), ([2], [2]), ([3, 2], [2, 3]), ([2, 4], [2, 4]), ([5, 2], [5]), ([6], [6]), ([6], [6]), ([7, 8, 6], [6, 7, 8]), ([9, 6], [6, 9]), ([6], [6]), ([10, 11, 6], [6, 10, 11]), ([6, 12], [6, 12]), ([13, 6], [13]), ([14], [14]), ([15, 14], [14, 15]), ([16, 14, 14], [14, 16]), ([17], [17]), ([18, 17], [17, 18]), ([17, 19, 14], [14, 17, 19]), ([20, 17, 14], [14, 20]), ([21], [21]), ([21], [21]), ([22, 23, 21], [21, 22, 23]), ([24, 21], [21, 24]), ([21], [21]), ([21], [21]), ([27, 21], [21, 27]), ([26, 28, 21, 21], [21, 26, 28]), ([25, 29, 21], [21, 25, 29]), ([21, 30, 14], [14, 21, 30]), ([14, 31], [14, 31])])
def laws_FnFiltersInWords.B27 : List Nat := [0, 1, 3, 7, 15, 31, 63, 127, 127, 511, 1023, 127, 4095, 8191, 16383, 32767, 65535, 131071, 262143, 524287, 1048575, 2097151, 4194303, 4194303, 16777215, 33554431, 4194303, 4194303, 138412031, 473956351, 1073741823, 2147483647, 4294967295]
theorem laws_FnFiltersInWords.tab27 : rtab .any (opsOf Try.f4 27) = laws_FnFiltersInWords.T27 := by kernel_rfl
theorem laws_FnFiltersInWords.bits27 : waitsOk laws_FnFiltersInWords.T27.2 laws_FnFiltersInWords.B27 = true := by kernel_rfl
set_option maxHeartbeats 80000000 in
set_option maxRecDepth 100000 in
theorem laws_FnFiltersInWords.calls (k : Nat) (A0 : Option Addr) (c0 : Nat) (l0 : List Int) (A1 : Option Addr) (c1 : Nat) (l1 : List Int) (r : Bool) (w : World) (hr0 : Kd.C (Kd.int .u8) w A0 l0.length l0) (hc0 : l0.length ≤ c0) (hr1 : Kd.C (Kd.int .u8) w A1 l1.length l1) (hc1 : l1.length ≤ c1) (hT : r = true) (h : laws_FnFiltersInWords.f k l0 l1 = some r) :
  Calls Try.prog 4 #[.slice A0 l0.length c0, .slice A1 l1.length c1] w fun e w' => e = .returned (.bool r) ∧ Below w.heap.size w w' := by
 have hu44 := Try.underlying44
 have HR0 := Aside0.mk hr0
 have HC0 := Aside0.mk hc0
 clear hr0 hc0
 have HR1 := Aside0.mk hr1
 have HC1 := Aside0.mk hc1
 clear hr1 hc1
 have HT := Aside0.mk hT
 clear hT
 have hun : ∀ b_ : Bool, (Go.undef = Value.bool b_) = False := fun b_ => by simp [Go.undef]
 have HB := Aside0.mk (Below.refl w.heap.size w)
 have H : ((laws_big.f l0 l1).bind fun t438 => (if t438 = true then (some true) else ((spec_DrawFilterInWord.f k l0).bind fun bt439 => ((impl_FilterInWord.f k bt439.1 bt439.2.1 bt439.2.2.1 bt439.2.2.2.1 bt439.2.2.2.2.1 bt439.2.2.2.2.2).bind fun bt450 => ((spec_FilterInWord.f k bt439.1 bt439.2.1 bt439.2.2.1 bt439.2.2.2.1 bt439.2.2.2.2.1 bt439.2.2.2.2.2).bind fun bt454 => ((impl_FilterAtEnd.f k bt439.1 bt439.2.1 bt439.2.2.1 bt439.2.2.2.1 bt439.2.2.2.2.1 bt439.2.2.2.2.2).bind fun bt458 => ((spec_FilterAtEnd.f k bt439.1 bt439.2.1 bt439.2.2.1 bt439.2.2.2.1 bt439.2.2.2.2.1 bt439.2.2.2.2.2).bind fun bt462 => (if (bt450.2 != bt454.2) = true then (some false) else ((laws_iSame.f k bt450.1 bt454.1).bind fun t466 => (if t466 = true then (if (bt458.2 != bt462.2) = true then (some false) else ((laws_iSame.f k bt458.1 bt462.1).bind fun t467 => (if t467 = true then (if (bt458.2 != bt450.2) = true then (some false) else (if bt450.2 = true then ((impl_FilterShort.f k bt439.2.2.1 bt439.2.2.2.1).bind fun bt468 => ((impl_RangeOf.f bt439.1 bt439.2.1).bind fun bt472 => (if bt472.2.2 = true then (if (bt450.1.length : Int) = (bt439.2.2.2.1.length : Int) then (if (bt458.1.length : Int) = (bt439.2.2.2.1.length : Int) then (laws_FnFiltersInWords.l0 k l1 bt439.2.2.1 bt439.2.2.2.2.1 bt439.2.2.2.2.2 bt450.1 bt458.1 bt468.1 bt468.2 bt472.1 bt472.2.1 (bt450.1.length : Int) 0 bt439.1 bt439.2.1) else (some false)) else (some false)) else (some false)))) else (laws_FnFiltersInWords.j2 k l1))) else (some false)))) else (some false))))))))))) = some r := h
 clear h
 replace H := Option.bind_eq_some_iff.mp H
 obtain ⟨t438, A30, H⟩ := H
 replace H : (if t438 = true then (some true) else ((spec_DrawFilterInWord.f k l0).bind fun bt439 => ((impl_FilterInWord.f k bt439.1 bt439.2.1 bt439.2.2.1 bt439.2.2.2.1 bt439.2.2.2.2.1 bt439.2.2.2.2.2).bind fun bt450 => ((spec_FilterInWord.f k bt439.1 bt439.2.1 bt439.2.2.1 bt439.2.2.2.1 bt439.2.2.2.2.1 bt439.2.2.2.2.2).bind fun bt454 => ((impl_FilterAtEnd.f k bt439.1 bt439.2.1 bt439.2.2.1 bt439.2.2.2.1 bt439.2.2.2.2.1 bt439.2.2.2.2.2).bind fun bt458 => ((spec_FilterAtEnd.f k bt439.1 bt439.2.1 bt439.2.2.1 bt439.2.2.2.1 bt439.2.2.2.2.1 bt439.2.2.2.2.2).bind fun bt462 => (if (bt450.2 != bt454.2) = true then (some false) else ((laws_iSame.f k bt450.1 bt454.1).bind fun t466 => (if t466 = true then (if (bt458.2 != bt462.2) = true then (some false) else ((laws_iSame.f k bt458.1 bt462.1).bind fun t467 => (if t467 = true then (if (bt458.2 != bt450.2) = true then (some false) else (if bt450.2 = true then ((impl_FilterShort.f k bt439.2.2.1 bt439.2.2.2.1).bind fun bt468 => ((impl_RangeOf.f bt439.1 bt439.2.1).bind fun bt472 => (if bt472.2.2 = true then (if (bt450.1.length : Int) = (bt439.2.2.2.1.length : Int) then (if (bt458.1.length : Int) = (bt439.2.2.2.1.length : Int) then (laws_FnFiltersInWords.l0 k l1 bt439.2.2.1 bt439.2.2.2.2.1 bt439.2.2.2.2.2 bt450.1 bt458.1 bt468.1 bt468.2 bt472.1 bt472.2.1 (bt450.1.length : Int) 0 bt439.1 bt439.2.1) else (some false)) else (some false)) else (some false)))) else (laws_FnFiltersInWords.j2 k l1))) else (some false)))) else (some false)))))))))) = some r := H
 have A3 := Aside0.mk A30
 clear A30
 by_cases c4 : t438 = true
 ·subst c4
  have H1 : (some true) = some r := by rw [if_pos rfl] at H; exact H
  clear H
  have H := H1
  clear H1
  obtain rfl := Option.some.inj H
  go_enter Try.func4, Try.ntmps4
  go_wp2_with (first | ((with_reducible refine gate_callee (f := 6) rfl ?_); refine goesL_ (some 45) rfl rfl Try.func6 (by kernel_rfl) rfl #[.slice A0 l0.length c0, .slice A1 l1.length c1] rfl (by (try simp only [List.map_toArray, List.map_cons, List.map_nil]); first | done | rfl | (simp only [List.length_drop, List.length_take]; rfl)) ?_; (with_reducible refine (laws_big.calls _ _ l0 _ _ l1 true _ ?side1 ?side2 ?side3 ?side4 A3.out).mono ?_); (case side1 => repeat (first | exact HR0.out | (with_reducible refine Kd.C_alloc ?_ _) | (with_reducible refine Kd.C_drewN ?_ _) | (with_reducible refine Kd.C_drew ?_))); (case side2 => exact HC0.out); (case side3 => repeat (first | exact HR1.out | (with_reducible refine Kd.C_alloc ?_ _) | (with_reducible refine Kd.C_drewN ?_ _) | (with_reducible refine Kd.C_drew ?_))); (case side4 => exact HC1.out); rintro e w' ⟨rfl, ⟨nd, rfl⟩⟩; refine ⟨_, rfl, ?_⟩))
  go_ret
  exact ⟨by first | rfl | (simp [errW_none, errW_some] <;> rfl) | (simp [*, errW_none, errW_some] <;> rfl), by repeat (first | (with_reducible first | exact HB.out | apply below_alloc | apply pw_below_drewN | apply below_drew1) | exact HB.out)⟩
 ·replace c4 := Bool.eq_false_iff.mpr c4
  subst c4
  have H1 : ((spec_DrawFilterInWord.f k l0).bind fun bt439 => ((impl_FilterInWord.f k bt439.1 bt439.2.1 bt439.2.2.1 bt439.2.2.2.1 bt439.2.2.2.2.1 bt439.2.2.2.2.2).bind fun bt450 => ((spec_FilterInWord.f k bt439.1 bt439.2.1 bt439.2.2.1 bt439.2.2.2.1 bt439.2.2.2.2.1 bt439.2.2.2.2.2).bind fun bt454 => ((impl_FilterAtEnd.f k bt439.1 bt439.2.1 bt439.2.2.1 bt439.2.2.2.1 bt439.2.2.2.2.1 bt439.2.2.2.2.2).bind fun bt458 => ((spec_FilterAtEnd.f k bt439.1 bt439.2.1 bt439.2.2.1 bt439.2.2.2.1 bt439.2.2.2.2.1 bt439.2.2.2.2.2).bind fun bt462 => (if (bt450.2 != bt454.2) = true then (some false) else ((laws_iSame.f k bt450.1 bt454.1).bind fun t466 => (if t466 = true then (if (bt458.2 != bt462.2) = true then (some false) else ((laws_iSame.f k bt458.1 bt462.1).bind fun t467 => (if t467 = true then (if (bt458.2 != bt450.2) = true then (some false) else (if bt450.2 = true then ((impl_FilterShort.f k bt439.2.2.1 bt439.2.2.2.1).bind fun bt468 => ((impl_RangeOf.f bt439.1 bt439.2.1).bind fun bt472 => (if bt472.2.2 = true then (if (bt450.1.length : Int) = (bt439.2.2.2.1.length : Int) then (if (bt458.1.length : Int) = (bt439.2.2.2.1.length : Int) then (laws_FnFiltersInWords.l0 k l1 bt439.2.2.1 bt439.2.2.2.2.1 bt439.2.2.2.2.2 bt450.1 bt458.1 bt468.1 bt468.2 bt472.1 bt472.2.1 (bt450.1.length : Int) 0 bt439.1 bt439.2.1) else (some false)) else (some false)) else (some false)))) else (laws_FnFiltersInWords.j2 k l1))) else (some false)))) else (some false))))))))) = some r := by rw [if_neg (show ¬ (false = true) by decide)] at H; exact H
  clear H
  have H := H1
  clear H1
  replace H := Option.bind_eq_some_iff.mp H
  obtain ⟨⟨t439, t440, t441, t444, t447, t448⟩, A50, H⟩ := H
  replace H : ((impl_FilterInWord.f k t439 t440 t441 t444 t447 t448).bind fun bt450 => ((spec_FilterInWord.f k t439 t440 t441 t444 t447 t448).bind fun bt454 => ((impl_FilterAtEnd.f k t439 t440 t441 t444 t447 t448).bind fun bt458 => ((spec_FilterAtEnd.f k t439 t440 t441 t444 t447 t448).bind fun bt462 => (if (bt450.2 != bt454.2) = true then (some false) else ((laws_iSame.f k bt450.1 bt454.1).bind fun t466 => (if t466 = true then (if (bt458.2 != bt462.2) = true then (some false) else ((laws_iSame.f k bt458.1 bt462.1).bind fun t467 => (if t467 = true then (if (bt458.2 != bt450.2) = true then (some false) else (if bt450.2 = true then ((impl_FilterShort.f k t441 t444).bind fun bt468 => ((impl_RangeOf.f t439 t440).bind fun bt472 => (if bt472.2.2 = true then (if (bt450.1.length : Int) = (t444.length : Int) then (if (bt458.1.length : Int) = (t444.length : Int) then (laws_FnFiltersInWords.l0 k l1 t441 t447 t448 bt450.1 bt458.1 bt468.1 bt468.2 bt472.1 bt472.2.1 (bt450.1.length : Int) 0 t439 t440) else (some false)) else (some false)) else (some false)))) else (laws_FnFiltersInWords.j2 k l1))) else (some false)))) else (some false)))))))) = some r := H
  have A5 := Aside0.mk A50
  clear A50
  replace H := Option.bind_eq_some_iff.mp H
  obtain ⟨⟨t450, t453⟩, A60, H⟩ := H
  replace H : ((spec_FilterInWord.f k t439 t440 t441 t444 t447 t448).bind fun bt454 => ((impl_FilterAtEnd.f k t439 t440 t441 t444 t447 t448).bind fun bt458 => ((spec_FilterAtEnd.f k t439 t440 t441 t444 t447 t448).bind fun bt462 => (if (t453 != bt454.2) = true then (some false) else ((laws_iSame.f k t450 bt454.1).bind fun t466 => (if t466 = true then (if (bt458.2 != bt462.2) = true then (some false) else ((laws_iSame.f k bt458.1 bt462.1).bind fun t467 => (if t467 = true then (if (bt458.2 != t453) = true then (some false) else (if t453 = true then ((impl_FilterShort.f k t441 t444).bind fun bt468 => ((impl_RangeOf.f t439 t440).bind fun bt472 => (if bt472.2.2 = true then (if (t450.length : Int) = (t444.length : Int) then (if (bt458.1.length : Int) = (t444.length : Int) then (laws_FnFiltersInWords.l0 k l1 t441 t447 t448 t450 bt458.1 bt468.1 bt468.2 bt472.1 bt472.2.1 (t450.length : Int) 0 t439 t440) else (some false)) else (some false)) else (some false)))) else (laws_FnFiltersInWords.j2 k l1))) else (some false)))) else (some false))))))) = some r := H
  have A6 := Aside0.mk A60
  clear A60
  replace H := Option.bind_eq_some_iff.mp H
  obtain ⟨⟨t454, t457⟩, A70, H⟩ := H
  replace H : ((impl_FilterAtEnd.f k t439 t440 t441 t444 t447 t448).bind fun bt458 => ((spec_FilterAtEnd.f k t439 t440 t441 t444 t447 t448).bind fun bt462 => (if (t453 != t457) = true then (some false) else ((laws_iSame.f k t450 t454).bind fun t466 => (if t466 = true then (if (bt458.2 != bt462.2) = true then (some false) else ((laws_iSame.f k bt458.1 bt462.1).bind fun t467 => (if t467 = true then (if (bt458.2 != t453) = true then (some false) else (if t453 = true then ((impl_FilterShort.f k t441 t444).bind fun bt468 => ((impl_RangeOf.f t439 t440).bind fun bt472 => (if bt472.2.2 = true then (if (t450.length : Int) = (t444.length : Int) then (if (bt458.1.length : Int) = (t444.length : Int) then (laws_FnFiltersInWords.l0 k l1 t441 t447 t448 t450 bt458.1 bt468.1 bt468.2 bt472.1 bt472.2.1 (t450.length : Int) 0 t439 t440) else (some false)) else (some false)) else (some false)))) else (laws_FnFiltersInWords.j2 k l1))) else (some false)))) else (some false)))))) = some r := H
  have A7 := Aside0.mk A70
  clear A70
  replace H := Option.bind_eq_some_iff.mp H
  obtain ⟨⟨t458, t461⟩, A80, H⟩ := H
  replace H : ((spec_FilterAtEnd.f k t439 t440 t441 t444 t447 t448).bind fun bt462 => (if (t453 != t457) = true then (some false) else ((laws_iSame.f k t450 t454).bind fun t466 => (if t466 = true then (if (t461 != bt462.2) = true then (some false) else ((laws_iSame.f k t458 bt462.1).bind fun t467 => (if t467 = true then (if (t461 != t453) = true then (some false) else (if t453 = true then ((impl_FilterShort.f k t441 t444).bind fun bt468 => ((impl_RangeOf.f t439 t440).bind fun bt472 => (if bt472.2.2 = true then (if (t450.length : Int) = (t444.length : Int) then (if (t458.length : Int) = (t444.length : Int) then (laws_FnFiltersInWords.l0 k l1 t441 t447 t448 t450 t458 bt468.1 bt468.2 bt472.1 bt472.2.1 (t450.length : Int) 0 t439 t440) else (some false)) else (some false)) else (some false)))) else (laws_FnFiltersInWords.j2 k l1))) else (some false)))) else (some false))))) = some r := H
  have A8 := Aside0.mk A80
  clear A80
  replace H := Option.bind_eq_some_iff.mp H
  obtain ⟨⟨t462, t465⟩, A90, H⟩ := H
  replace H : (if (t453 != t457) = true then (some false) else ((laws_iSame.f k t450 t454).bind fun t466 => (if t466 = true then (if (t461 != t465) = true then (some false) else ((laws_iSame.f k t458 t462).bind fun t467 => (if t467 = true then (if (t461 != t453) = true then (some false) else (if t453 = true then ((impl_FilterShort.f k t441 t444).bind fun bt468 => ((impl_RangeOf.f t439 t440).bind fun bt472 => (if bt472.2.2 = true then (if (t450.length : Int) = (t444.length : Int) then (if (t458.length : Int) = (t444.length : Int) then (laws_FnFiltersInWords.l0 k l1 t441 t447 t448 t450 t458 bt468.1 bt468.2 bt472.1 bt472.2.1 (t450.length : Int) 0 t439 t440) else (some false)) else (some false)) else (some false)))) else (laws_FnFiltersInWords.j2 k l1))) else (some false)))) else (some false)))) = some r := H
  have A9 := Aside0.mk A90
  clear A90
  by_cases c10 : (t453 != t457) = true
  ·rw [if_pos c10] at H
   have c10b0 : (t453 != t457) = true := c10
   (try (have c10b1 : decide (t453 = t457) = false := by simpa using c10))
   (try (have c10b2 : (t453 == t457) = false := by simpa using c10))
   (try (have c10b3 : ¬ (t453 = t457) := by simpa using c10))
   clear c10
   obtain rfl := Option.some.inj H
   exact absurd HT.out (by simp)
  ·rw [if_neg c10] at H
   have c10b0 : (t453 != t457) = false := by simpa using c10
   (try (have c10b1 : decide (t453 = t457) = true := by simpa using c10))
   (try (have c10b2 : (t453 == t457) = true := by simpa using c10))
   clear c10
   replace H := Option.bind_eq_some_iff.mp H
   obtain ⟨t466, A110, H⟩ := H
   replace H : (if t466 = true then (if (t461 != t465) = true then (some false) else ((laws_iSame.f k t458 t462).bind fun t467 => (if t467 = true then (if (t461 != t453) = true then (some false) else (if t453 = true then ((impl_FilterShort.f k t441 t444).bind fun bt468 => ((impl_RangeOf.f t439 t440).bind fun bt472 => (if bt472.2.2 = true then (if (t450.length : Int) = (t444.length : Int) then (if (t458.length : Int) = (t444.length : Int) then (laws_FnFiltersInWords.l0 k l1 t441 t447 t448 t450 t458 bt468.1 bt468.2 bt472.1 bt472.2.1 (t450.length : Int) 0 t439 t440) else (some false)) else (some false)) else (some false)))) else (laws_FnFiltersInWords.j2 k l1))) else (some false)))) else (some false)) = some r := H
   have A11 := Aside0.mk A110
   clear A110
   by_cases c12 : t466 = true
   ·subst c12
    have H1 : (if (t461 != t465) = true then (some false) else ((laws_iSame.f k t458 t462).bind fun t467 => (if t467 = true then (if (t461 != t453) = true then (some false) else (if t453 = true then ((impl_FilterShort.f k t441 t444).bind fun bt468 => ((impl_RangeOf.f t439 t440).bind fun bt472 => (if bt472.2.2 = true then (if (t450.length : Int) = (t444.length : Int) then (if (t458.length : Int) = (t444.length : Int) then (laws_FnFiltersInWords.l0 k l1 t441 t447 t448 t450 t458 bt468.1 bt468.2 bt472.1 bt472.2.1 (t450.length : Int) 0 t439 t440) else (some false)) else (some false)) else (some false)))) else (laws_FnFiltersInWords.j2 k l1))) else (some false)))) = some r := by rw [if_pos rfl] at H; exact H
    clear H
    have H := H1
    clear H1
    by_cases c13 : (t461 != t465) = true
    ·rw [if_pos c13] at H
     have c13b0 : (t461 != t465) = true := c13
     (try (have c13b1 : decide (t461 = t465) = false := by simpa using c13))
     (try (have c13b2 : (t461 == t465) = false := by simpa using c13))
     (try (have c13b3 : ¬ (t461 = t465) := by simpa using c13))
     clear c13
     obtain rfl := Option.some.inj H
     exact absurd HT.out (by simp)
    ·rw [if_neg c13] at H
     have c13b0 : (t461 != t465) = false := by simpa using c13
     (try (have c13b1 : decide (t461 = t465) = true := by simpa using c13))
     (try (have c13b2 : (t461 == t465) = true := by simpa using c13))
     clear c13
     replace H := Option.bind_eq_some_iff.mp H
     obtain ⟨t467, A140, H⟩ := H
     replace H : (if t467 = true then (if (t461 != t453) = true then (some false) else (if t453 = true then ((impl_FilterShort.f k t441 t444).bind fun bt468 => ((impl_RangeOf.f t439 t440).bind fun bt472 => (if bt472.2.2 = true then (if (t450.length : Int) = (t444.length : Int) then (if (t458.length : Int) = (t444.length : Int) then (laws_FnFiltersInWords.l0 k l1 t441 t447 t448 t450 t458 bt468.1 bt468.2 bt472.1 bt472.2.1 (t450.length : Int) 0 t439 t440) else (some false)) else (some false)) else (some false)))) else (laws_FnFiltersInWords.j2 k l1))) else (some false)) = some r := H
     have A14 := Aside0.mk A140
     clear A140
     by_cases c15 : t467 = true
     ·subst c15
      have H1 : (if (t461 != t453) = true then (some false) else (if t453 = true then ((impl_FilterShort.f k t441 t444).bind fun bt468 => ((impl_RangeOf.f t439 t440).bind fun bt472 => (if bt472.2.2 = true then (if (t450.length : Int) = (t444.length : Int) then (if (t458.length : Int) = (t444.length : Int) then (laws_FnFiltersInWords.l0 k l1 t441 t447 t448 t450 t458 bt468.1 bt468.2 bt472.1 bt472.2.1 (t450.length : Int) 0 t439 t440) else (some false)) else (some false)) else (some false)))) else (laws_FnFiltersInWords.j2 k l1))) = some r := by rw [if_pos rfl] at H; exact H
      clear H
      have H := H1
      clear H1
      by_cases c16 : (t461 != t453) = true
      ·rw [if_pos c16] at H
       have c16b0 : (t461 != t453) = true := c16
       (try (have c16b1 : decide (t461 = t453) = false := by simpa using c16))
       (try (have c16b2 : (t461 == t453) = false := by simpa using c16))
       (try (have c16b3 : ¬ (t461 = t453) := by simpa using c16))
       clear c16
       obtain rfl := Option.some.inj H
       exact absurd HT.out (by simp)
      ·rw [if_neg c16] at H
       have c16b0 : (t461 != t453) = false := by simpa using c16
       (try (have c16b1 : decide (t461 = t453) = true := by simpa using c16))
       (try (have c16b2 : (t461 == t453) = true := by simpa using c16))
       clear c16
       have HC17 := Aside0.mk H
       clear H
       go_enter Try.func4, Try.ntmps4
       go_upto_if 115 with (first | ((with_reducible refine gate_callee (f := 6) rfl ?_); refine goesL_ (some 45) rfl rfl Try.func6 (by kernel_rfl) rfl #[.slice A0 l0.length c0, .slice A1 l1.length c1] rfl (by (try simp only [List.map_toArray, List.map_cons, List.map_nil]); first | done | rfl | (simp only [List.length_drop, List.length_take]; rfl)) ?_; (with_reducible refine (laws_big.calls _ _ l0 _ _ l1 false _ ?side1 ?side2 ?side3 ?side4 A3.out).mono ?_); (case side1 => repeat (first | exact HR0.out | (with_reducible refine Kd.C_alloc ?_ _) | (with_reducible refine Kd.C_drewN ?_ _) | (with_reducible refine Kd.C_drew ?_))); (case side2 => exact HC0.out); (case side3 => repeat (first | exact HR1.out | (with_reducible refine Kd.C_alloc ?_ _) | (with_reducible refine Kd.C_drewN ?_ _) | (with_reducible refine Kd.C_drew ?_))); (case side4 => exact HC1.out); rintro e w' ⟨rfl, ⟨nd, rfl⟩⟩; refine ⟨_, rfl, ?_⟩) | ((with_reducible refine gate_callee (f := 28) rfl ?_); refine goesL_ (some 48) rfl rfl Try.func28 (by kernel_rfl) rfl #[.slice A0 l0.length c0] rfl (by (try simp only [List.map_toArray, List.map_cons, List.map_nil]); first | done | rfl | (simp only [List.length_drop, List.length_take]; rfl)) ?_; (with_reducible refine (spec_DrawFilterInWord.calls k _ _ l0 t439 t440 t441 t444 t447 t448 _ ?side1 ?side2 A5.out).mono ?_); (case side1 => repeat (first | exact HR0.out | (with_reducible refine Kd.C_alloc ?_ _) | (with_reducible refine Kd.C_drewN ?_ _) | (with_reducible refine Kd.C_drew ?_))); (case side2 => exact HC0.out); rintro e w18 ⟨v442, v445, rfl, ho0, ho1, hb⟩; refine ⟨_, rfl, ?_⟩; have n0_ := Aside0.mk (Kd.R_lower ho0 (below_size (by repeat (first | (with_reducible first | exact HB.out | apply below_alloc | apply pw_below_drewN | apply below_drew1) | exact HB.out)))); have n1_ := Aside0.mk (Kd.R_lower ho1 (below_size (by repeat (first | (with_reducible first | exact HB.out | apply below_alloc | apply pw_below_drewN | apply below_drew1) | exact HB.out)))); have n2_ := Aside0.mk (below_step (by repeat (first | (with_reducible first | exact HB.out | apply below_alloc | apply pw_below_drewN | apply below_drew1) | exact HB.out)) hb); clear HB; have HO443 := n0_; have HO446 := n1_; have HB := n2_; clear n0_ n1_ n2_; (try clear hb); (try clear hb2); (try clear hk); (try clear hi); (try clear ho0); (try clear ho1)) | ((with_reducible refine gate_dst (N := 5) rfl ?_); (try (refine gate_guard (by rfl) ?_; dsimp only)); refine box_event ?hg (N := 5) ?hd (cs := #[.int .i64 0, .bool false]) (t := 44) ?hr ?_; (case hd => rfl); (case hg => rfl); (case hr => first | (go_simp; done) | (go_simp; rfl)); intro gb449 hg w19 hbox hb; have n0_ := Aside0.mk (Kd.R_below (by (with_reducible repeat (first | apply Kd.R_alloc | apply Kd.R_drewN | apply Kd.R_drew)); exact HO443.out) hb); have n1_ := Aside0.mk (Kd.R_below (by (with_reducible repeat (first | apply Kd.R_alloc | apply Kd.R_drewN | apply Kd.R_drew)); exact HO446.out) hb); have n2_ := Aside0.mk (below_step (by repeat (first | (with_reducible first | exact HB.out | apply below_alloc | apply pw_below_drewN | apply below_drew1) | exact HB.out)) hb); have n3_ := Aside0.mk (hbox); have n4_ := Aside0.mk ((by rw [hg]; exact (below_size (by repeat (first | (with_reducible first | exact HB.out | apply below_alloc | apply pw_below_drewN | apply below_drew1) | exact HB.out))) : w.heap.size ≤ gb449)); have n5_ := Aside0.mk ((by rw [hg]; exact (below_size (by repeat (first | (with_reducible first | exact HB.out | apply below_alloc | apply pw_below_drewN | apply below_drew1) | exact HB.out))) : w.heap.size ≤ gb449)); clear HO443; clear HO446; clear HB; have HO443 := n0_; have HO446 := n1_; have HB := n2_; have BK449 := n3_; have GW449 := n4_; have GE449 := n5_; clear n0_ n1_ n2_ n3_ n4_ n5_; clear hb hbox hg; have hcz20_0 : w19.cell? ⟨gb449, 0, none⟩ = some (.int .i64 0) := (blk_cell BK449.out 0).trans rfl; have hcz20_1 : w19.cell? ⟨gb449, 1, none⟩ = some (.bool false) := (blk_cell BK449.out 1).trans rfl; have hfz20_0 := blk_frozen BK449.out 0; have hfz20_1 := blk_frozen BK449.out 1; obtain ⟨Ao21, co21, eo21⟩ := Kd.R_slice HO443.out; subst eo21; obtain ⟨Ao22, co22, eo22⟩ := Kd.R_slice HO446.out; subst eo22) | ((with_reducible refine gate_callee (f := 29) rfl ?_); refine goesL_ (some 60) rfl rfl Try.func29 (by kernel_rfl) rfl #[.agg #[.int .i64 t439, .bool t440], .slice Ao21 t441.length co21, .slice Ao22 t444.length co22, .int .i64 t447, .int .i64 t448] rfl (by (try simp only [List.map_toArray, List.map_cons, List.map_nil]); first | done | rfl | (simp only [List.length_drop, List.length_take]; rfl)) ?_; (with_reducible refine (impl_FilterInWord.calls k t439 t440 _ _ t441 _ _ t444 t447 t448 t450 t453 _ ?side1 ?side2 ?side3 ?side4 A6.out).mono ?_); (case side1 => refine (Kd.R_reads' (e := 3) (base := w.heap.size) (ok := fun k_ => some k_ ≠ (.slice Ao22 t444.length co22 : Value).ownBlock) (n := t441.length) (c := co21) ?_).2.2; exact (by (with_reducible repeat (first | apply Kd.R_alloc | apply Kd.R_drewN | apply Kd.R_drew)); exact (Kd.R_mono (Kd.R_far (p := ⟨gb449, 1, none⟩) (Kd.R_far (p := ⟨gb449, 0, none⟩) (Kd.R_types HO443.out BK449.out (by decide)) (fun _ hk => hk.2) (.int .i64 t439)) (fun _ hk => hk.2) (.bool t440)) (fun _ h_ => h_.1)))); (case side2 => exact (Kd.R_reads' HO443.out).2.1); (case side3 => refine (Kd.R_reads' (e := 3) (base := w.heap.size) (ok := fun k_ => some k_ ≠ (.slice Ao21 t441.length co21 : Value).ownBlock) (n := t444.length) (c := co22) ?_).2.2; exact (by (with_reducible repeat (first | apply Kd.R_alloc | apply Kd.R_drewN | apply Kd.R_drew)); exact (Kd.R_mono (Kd.R_far (p := ⟨gb449, 1, none⟩) (Kd.R_far (p := ⟨gb449, 0, none⟩) (Kd.R_types HO446.out BK449.out (by decide)) (fun _ hk => hk.2) (.int .i64 t439)) (fun _ hk => hk.2) (.bool t440)) (fun _ h_ => h_.1)))); (case side4 => exact (Kd.R_reads' HO446.out).2.1); rintro e w23 ⟨v451, rfl, ho0, hb⟩; refine ⟨_, rfl, ?_⟩; have n0_ := Aside0.mk (Kd.R_elder' (by (with_reducible repeat (first | apply Kd.R_alloc | apply Kd.R_drewN | apply Kd.R_drew)); exact (Kd.R_mono (Kd.R_far (p := ⟨gb449, 1, none⟩) (Kd.R_far (p := ⟨gb449, 0, none⟩) (Kd.R_types HO443.out BK449.out (by decide)) (fun _ hk => hk.2) (.int .i64 t439)) (fun _ hk => hk.2) (.bool t440)) (fun _ h_ => h_.1))) (Kd.R_base ho0) hb); have n1_ := Aside0.mk (Kd.R_elder' (by (with_reducible repeat (first | apply Kd.R_alloc | apply Kd.R_drewN | apply Kd.R_drew)); exact (Kd.R_mono (Kd.R_far (p := ⟨gb449, 1, none⟩) (Kd.R_far (p := ⟨gb449, 0, none⟩) (Kd.R_types HO446.out BK449.out (by decide)) (fun _ hk => hk.2) (.int .i64 t439)) (fun _ hk => hk.2) (.bool t440)) (fun _ h_ => h_.1))) (Kd.R_base ho0) hb); have n2_ := Aside0.mk (Kd.R_lower (Kd.R_new' (Kd.R_new' ho0 (Kd.R_lt (by (with_reducible repeat (first | apply Kd.R_alloc | apply Kd.R_drewN | apply Kd.R_drew)); exact (Kd.R_mono (Kd.R_far (p := ⟨gb449, 1, none⟩) (Kd.R_far (p := ⟨gb449, 0, none⟩) (Kd.R_types HO443.out BK449.out (by decide)) (fun _ hk => hk.2) (.int .i64 t439)) (fun _ hk => hk.2) (.bool t440)) (fun _ h_ => h_.1))))) (Kd.R_lt (by (with_reducible repeat (first | apply Kd.R_alloc | apply Kd.R_drewN | apply Kd.R_drew)); exact (Kd.R_mono (Kd.R_far (p := ⟨gb449, 1, none⟩) (Kd.R_far (p := ⟨gb449, 0, none⟩) (Kd.R_types HO446.out BK449.out (by decide)) (fun _ hk => hk.2) (.int .i64 t439)) (fun _ hk => hk.2) (.bool t440)) (fun _ h_ => h_.1))))) (below_size (by repeat (first | (with_reducible first | exact HB.out | apply below_alloc | apply pw_below_drewN | apply below_drew1 | refine below_set ?_ GE449.out) | exact HB.out)))); have n3_ := Aside0.mk (blk_below (g := gb449) (o := .cells #[.int .i64 t439, .bool t440] 44 (0, 0)) (by (with_reducible repeat (first | refine blk_drewN ?_ _ | refine blk_drew ?_ | refine blk_alloc ?_ _)); refine blk_put (cs := #[.int .i64 t439, .bool false]) ?_ 1 _ rfl; (with_reducible repeat (first | refine blk_drewN ?_ _ | refine blk_drew ?_ | refine blk_alloc ?_ _)); refine blk_put (cs := #[.int .i64 0, .bool false]) ?_ 0 _ rfl; (with_reducible repeat (first | refine blk_drewN ?_ _ | refine blk_drew ?_ | refine blk_alloc ?_ _)); exact BK449.out) hb); have n4_ := Aside0.mk (below_step (by repeat (first | (with_reducible first | exact HB.out | apply below_alloc | apply pw_below_drewN | apply below_drew1 | refine below_set ?_ GE449.out) | exact HB.out)) hb); clear HO443; clear HO446; clear BK449; clear HB; have HO443 := n0_; have HO446 := n1_; have HO452 := n2_; have BK449 := n3_; have HB := n4_; clear n0_ n1_ n2_ n3_ n4_; (try clear hb); (try clear hb2); (try clear hk); (try clear hi); (try clear ho0); have hcz24_0 : w23.cell? ⟨gb449, 0, none⟩ = some (.int .i64 t439) := (blk_cell BK449.out 0).trans rfl; have hcz24_1 : w23.cell? ⟨gb449, 1, none⟩ = some (.bool t440) := (blk_cell BK449.out 1).trans rfl; have hfz24_0 := blk_frozen BK449.out 0; have hfz24_1 := blk_frozen BK449.out 1) | ((with_reducible refine gate_callee (f := 30) rfl ?_); refine goesL_ (some 69) rfl rfl Try.func30 (by kernel_rfl) rfl #[.agg #[.int .i64 t439, .bool t440], .slice Ao21 t441.length co21, .slice Ao22 t444.length co22, .int .i64 t447, .int .i64 t448] rfl (by (try simp only [List.map_toArray, List.map_cons, List.map_nil]); first | done | rfl | (simp only [List.length_drop, List.length_take]; rfl)) ?_; (with_reducible refine (spec_FilterInWord.calls k t439 t440 _ _ t441 _ _ t444 t447 t448 t454 t457 _ ?side1 ?side2 ?side3 ?side4 A7.out).mono ?_); (case side1 => repeat (first | exact (Kd.R_reads' HO443.out).2.2 | (with_reducible refine Kd.C_alloc ?_ _) | (with_reducible refine Kd.C_drewN ?_ _) | (with_reducible refine Kd.C_drew ?_))); (case side2 => exact (Kd.R_reads' HO443.out).2.1); (case side3 => repeat (first | exact (Kd.R_reads' HO446.out).2.2 | (with_reducible refine Kd.C_alloc ?_ _) | (with_reducible refine Kd.C_drewN ?_ _) | (with_reducible refine Kd.C_drew ?_))); (case side4 => exact (Kd.R_reads' HO446.out).2.1); rintro e w25 ⟨v455, rfl, ho0, hb⟩; refine ⟨_, rfl, ?_⟩; have n0_ := Aside0.mk (Kd.R_elder' (by (with_reducible repeat (first | apply Kd.R_alloc | apply Kd.R_drewN | apply Kd.R_drew)); exact HO443.out) (Kd.R_base ho0) hb); have n1_ := Aside0.mk (Kd.R_elder' (by (with_reducible repeat (first | apply Kd.R_alloc | apply Kd.R_drewN | apply Kd.R_drew)); exact HO446.out) (Kd.R_base ho0) hb); have n2_ := Aside0.mk (Kd.R_elder' (by (with_reducible repeat (first | apply Kd.R_alloc | apply Kd.R_drewN | apply Kd.R_drew)); exact HO452.out) (Kd.R_base ho0) hb); have n3_ := Aside0.mk (Kd.R_lower (Kd.R_new' (Kd.R_new' (Kd.R_new' ho0 (Kd.R_lt (by (with_reducible repeat (first | apply Kd.R_alloc | apply Kd.R_drewN | apply Kd.R_drew)); exact HO443.out))) (Kd.R_lt (by (with_reducible repeat (first | apply Kd.R_alloc | apply Kd.R_drewN | apply Kd.R_drew)); exact HO446.out))) (Kd.R_lt (by (with_reducible repeat (first | apply Kd.R_alloc | apply Kd.R_drewN | apply Kd.R_drew)); exact HO452.out))) (below_size (by repeat (first | (with_reducible first | exact HB.out | apply below_alloc | apply pw_below_drewN | apply below_drew1 | refine below_set ?_ GE449.out) | exact HB.out)))); have n4_ := Aside0.mk (blk_below (g := gb449) (o := .cells #[.int .i64 t439, .bool t440] 44 (0, 0)) (by (with_reducible repeat (first | refine blk_drewN ?_ _ | refine blk_drew ?_ | refine blk_alloc ?_ _)); exact BK449.out) hb); have n5_ := Aside0.mk (below_step (by repeat (first | (with_reducible first | exact HB.out | apply below_alloc | apply pw_below_drewN | apply below_drew1 | refine below_set ?_ GE449.out) | exact HB.out)) hb); clear HO443; clear HO446; clear HO452; clear BK449; clear HB; have HO443 := n0_; have HO446 := n1_; have HO452 := n2_; have HO456 := n3_; have BK449 := n4_; have HB := n5_; clear n0_ n1_ n2_ n3_ n4_ n5_; (try clear hb); (try clear hb2); (try clear hk); (try clear hi); (try clear ho0); have hcz26_0 : w25.cell? ⟨gb449, 0, none⟩ = some (.int .i64 t439) := (blk_cell BK449.out 0).trans rfl; have hcz26_1 : w25.cell? ⟨gb449, 1, none⟩ = some (.bool t440) := (blk_cell BK449.out 1).trans rfl; have hfz26_0 := blk_frozen BK449.out 0; have hfz26_1 := blk_frozen BK449.out 1) | ((with_reducible refine gate_callee (f := 31) rfl ?_); refine goesL_ (some 78) rfl rfl Try.func31 (by kernel_rfl) rfl #[.agg #[.int .i64 t439, .bool t440], .slice Ao21 t441.length co21, .slice Ao22 t444.length co22, .int .i64 t447, .int .i64 t448] rfl (by (try simp only [List.map_toArray, List.map_cons, List.map_nil]); first | done | rfl | (simp only [List.length_drop, List.length_take]; rfl)) ?_; (with_reducible refine (impl_FilterAtEnd.calls k t439 t440 _ _ t441 _ _ t444 t447 t448 t458 t461 _ ?side1 ?side2 ?side3 ?side4 A8.out).mono ?_); (case side1 => repeat (first | exact (Kd.R_reads' HO443.out).2.2 | (with_reducible refine Kd.C_alloc ?_ _) | (with_reducible refine Kd.C_drewN ?_ _) | (with_reducible refine Kd.C_drew ?_))); (case side2 => exact (Kd.R_reads' HO443.out).2.1); (case side3 => repeat (first | exact (Kd.R_reads' HO446.out).2.2 | (with_reducible refine Kd.C_alloc ?_ _) | (with_reducible refine Kd.C_drewN ?_ _) | (with_reducible refine Kd.C_drew ?_))); (case side4 => exact (Kd.R_reads' HO446.out).2.1); rintro e w27 ⟨v459, rfl, ho0, hb⟩; refine ⟨_, rfl, ?_⟩; have n0_ := Aside0.mk (Kd.R_elder' (by (with_reducible repeat (first | apply Kd.R_alloc | apply Kd.R_drewN | apply Kd.R_drew)); exact HO443.out) (Kd.R_base ho0) hb); have n1_ := Aside0.mk (Kd.R_elder' (by (with_reducible repeat (first | apply Kd.R_alloc | apply Kd.R_drewN | apply Kd.R_drew)); exact HO446.out) (Kd.R_base ho0) hb); have n2_ := Aside0.mk (Kd.R_elder' (by (with_reducible repeat (first | apply Kd.R_alloc | apply Kd.R_drewN | apply Kd.R_drew)); exact HO452.out) (Kd.R_base ho0) hb); have n3_ := Aside0.mk (Kd.R_elder' (by (with_reducible repeat (first | apply Kd.R_alloc | apply Kd.R_drewN | apply Kd.R_drew)); exact HO456.out) (Kd.R_base ho0) hb); have n4_ := Aside0.mk (Kd.R_lower (Kd.R_new' (Kd.R_new' (Kd.R_new' (Kd.R_new' ho0 (Kd.R_lt (by (with_reducible repeat (first | apply Kd.R_alloc | apply Kd.R_drewN | apply Kd.R_drew)); exact HO443.out))) (Kd.R_lt (by (with_reducible repeat (first | apply Kd.R_alloc | apply Kd.R_drewN | apply Kd.R_drew)); exact HO446.out))) (Kd.R_lt (by (with_reducible repeat (first | apply Kd.R_alloc | apply Kd.R_drewN | apply Kd.R_drew)); exact HO452.out))) (Kd.R_lt (by (with_reducible repeat (first | apply Kd.R_alloc | apply Kd.R_drewN | apply Kd.R_drew)); exact HO456.out))) (below_size (by repeat (first | (with_reducible first | exact HB.out | apply below_alloc | apply pw_below_drewN | apply below_drew1 | refine below_set ?_ GE449.out) | exact HB.out)))); have n5_ := Aside0.mk (blk_below (g := gb449) (o := .cells #[.int .i64 t439, .bool t440] 44 (0, 0)) (by (with_reducible repeat (first | refine blk_drewN ?_ _ | refine blk_drew ?_ | refine blk_alloc ?_ _)); exact BK449.out) hb); have n6_ := Aside0.mk (below_step (by repeat (first | (with_reducible first | exact HB.out | apply below_alloc | apply pw_below_drewN | apply below_drew1 | refine below_set ?_ GE449.out) | exact HB.out)) hb); clear HO443; clear HO446; clear HO452; clear HO456; clear BK449; clear HB; have HO443 := n0_; have HO446 := n1_; have HO452 := n2_; have HO456 := n3_; have HO460 := n4_; have BK449 := n5_; have HB := n6_; clear n0_ n1_ n2_ n3_ n4_ n5_ n6_; (try clear hb); (try clear hb2); (try clear hk); (try clear hi); (try clear ho0); have hcz28_0 : w27.cell? ⟨gb449, 0, none⟩ = some (.int .i64 t439) := (blk_cell BK449.out 0).trans rfl; have hcz28_1 : w27.cell? ⟨gb449, 1, none⟩ = some (.bool t440) := (blk_cell BK449.out 1).trans rfl; have hfz28_0 := blk_frozen BK449.out 0; have hfz28_1 := blk_frozen BK449.out 1) | ((with_reducible refine gate_callee (f := 32) rfl ?_); refine goesL_ (some 87) rfl rfl Try.func32 (by kernel_rfl) rfl #[.agg #[.int .i64 t439, .bool t440], .slice Ao21 t441.length co21, .slice Ao22 t444.length co22, .int .i64 t447, .int .i64 t448] rfl (by (try simp only [List.map_toArray, List.map_cons, List.map_nil]); first | done | rfl | (simp only [List.length_drop, List.length_take]; rfl)) ?_; (with_reducible refine (spec_FilterAtEnd.calls k t439 t440 _ _ t441 _ _ t444 t447 t448 t462 t465 _ ?side1 ?side2 ?side3 ?side4 A9.out).mono ?_); (case side1 => repeat (first | exact (Kd.R_reads' HO443.out).2.2 | (with_reducible refine Kd.C_alloc ?_ _) | (with_reducible refine Kd.C_drewN ?_ _) | (with_reducible refine Kd.C_drew ?_))); (case side2 => exact (Kd.R_reads' HO443.out).2.1); (case side3 => repeat (first | exact (Kd.R_reads' HO446.out).2.2 | (with_reducible refine Kd.C_alloc ?_ _) | (with_reducible refine Kd.C_drewN ?_ _) | (with_reducible refine Kd.C_drew ?_))); (case side4 => exact (Kd.R_reads' HO446.out).2.1); rintro e w29 ⟨v463, rfl, ho0, hb⟩; refine ⟨_, rfl, ?_⟩; have n0_ := Aside0.mk (Kd.R_elder' (by (with_reducible repeat (first | apply Kd.R_alloc | apply Kd.R_drewN | apply Kd.R_drew)); exact HO443.out) (Kd.R_base ho0) hb); have n1_ := Aside0.mk (Kd.R_elder' (by (with_reducible repeat (first | apply Kd.R_alloc | apply Kd.R_drewN | apply Kd.R_drew)); exact HO446.out) (Kd.R_base ho0) hb); have n2_ := Aside0.mk (Kd.R_elder' (by (with_reducible repeat (first | apply Kd.R_alloc | apply Kd.R_drewN | apply Kd.R_drew)); exact HO452.out) (Kd.R_base ho0) hb); have n3_ := Aside0.mk (Kd.R_elder' (by (with_reducible repeat (first | apply Kd.R_alloc | apply Kd.R_drewN | apply Kd.R_drew)); exact HO456.out) (Kd.R_base ho0) hb); have n4_ := Aside0.mk (Kd.R_elder' (by (with_reducible repeat (first | apply Kd.R_alloc | apply Kd.R_drewN | apply Kd.R_drew)); exact HO460.out) (Kd.R_base ho0) hb); have n5_ := Aside0.mk (Kd.R_lower (Kd.R_new' (Kd.R_new' (Kd.R_new' (Kd.R_new' (Kd.R_new' ho0 (Kd.R_lt (by (with_reducible repeat (first | apply Kd.R_alloc | apply Kd.R_drewN | apply Kd.R_drew)); exact HO443.out))) (Kd.R_lt (by (with_reducible repeat (first | apply Kd.R_alloc | apply Kd.R_drewN | apply Kd.R_drew)); exact HO446.out))) (Kd.R_lt (by (with_reducible repeat (first | apply Kd.R_alloc | apply Kd.R_drewN | apply Kd.R_drew)); exact HO452.out))) (Kd.R_lt (by (with_reducible repeat (first | apply Kd.R_alloc | apply Kd.R_drewN | apply Kd.R_drew)); exact HO456.out))) (Kd.R_lt (by (with_reducible repeat (first | apply Kd.R_alloc | apply Kd.R_drewN | apply Kd.R_drew)); exact HO460.out))) (below_size (by repeat (first | (with_reducible first | exact HB.out | apply below_alloc | apply pw_below_drewN | apply below_drew1 | refine below_set ?_ GE449.out) | exact HB.out)))); have n6_ := Aside0.mk (blk_below (g := gb449) (o := .cells #[.int .i64 t439, .bool t440] 44 (0, 0)) (by (with_reducible repeat (first | refine blk_drewN ?_ _ | refine blk_drew ?_ | refine blk_alloc ?_ _)); exact BK449.out) hb); have n7_ := Aside0.mk (below_step (by repeat (first | (with_reducible first | exact HB.out | apply below_alloc | apply pw_below_drewN | apply below_drew1 | refine below_set ?_ GE449.out) | exact HB.out)) hb); clear HO443; clear HO446; clear HO452; clear HO456; clear HO460; clear BK449; clear HB; have HO443 := n0_; have HO446 := n1_; have HO452 := n2_; have HO456 := n3_; have HO460 := n4_; have HO464 := n5_; have BK449 := n6_; have HB := n7_; clear n0_ n1_ n2_ n3_ n4_ n5_ n6_ n7_; (try clear hb); (try clear hb2); (try clear hk); (try clear hi); (try clear ho0); obtain ⟨Ao30, co30, eo30⟩ := Kd.R_slice HO452.out; subst eo30; obtain ⟨Ao31, co31, eo31⟩ := Kd.R_slice HO456.out; subst eo31) | (go_at_call 14; (with_reducible refine (laws_iSame.calls k _ _ t450 _ _ t454 true _ ?side1 ?side2 ?side3 ?side4 A11.out).mono ?_); (case side1 => repeat (first | exact (Kd.R_reads' HO452.out).2.2 | (with_reducible refine Kd.C_alloc ?_ _) | (with_reducible refine Kd.C_drewN ?_ _) | (with_reducible refine Kd.C_drew ?_))); (case side2 => exact (Kd.R_reads' HO452.out).2.1); (case side3 => repeat (first | exact (Kd.R_reads' HO456.out).2.2 | (with_reducible refine Kd.C_alloc ?_ _) | (with_reducible refine Kd.C_drewN ?_ _) | (with_reducible refine Kd.C_drew ?_))); (case side4 => exact (Kd.R_reads' HO456.out).2.1); rintro e w' ⟨rfl, ⟨nd, rfl⟩⟩; obtain ⟨Ao32, co32, eo32⟩ := Kd.R_slice HO460.out; subst eo32; obtain ⟨Ao33, co33, eo33⟩ := Kd.R_slice HO464.out; subst eo33) | (go_at_call 14; (with_reducible refine (laws_iSame.calls k _ _ t458 _ _ t462 true _ ?side1 ?side2 ?side3 ?side4 A14.out).mono ?_); (case side1 => repeat (first | exact (Kd.R_reads' HO460.out).2.2 | (with_reducible refine Kd.C_alloc ?_ _) | (with_reducible refine Kd.C_drewN ?_ _) | (with_reducible refine Kd.C_drew ?_))); (case side2 => exact (Kd.R_reads' HO460.out).2.1); (case side3 => repeat (first | exact (Kd.R_reads' HO464.out).2.2 | (with_reducible refine Kd.C_alloc ?_ _) | (with_reducible refine Kd.C_drewN ?_ _) | (with_reducible refine Kd.C_drew ?_))); (case side4 => exact (Kd.R_reads' HO464.out).2.1); rintro e w' ⟨rfl, ⟨nd, rfl⟩⟩))
       (try simp only [Act.put, List.setIfInBounds_toArray, List.set_cons_zero, List.set_cons_succ])
       refine cutF [ff, ff, ff, ff, tt, ff, ff, ff, ff, ff, ff, ff, ff, ff, ff, ff, ff, ff, tt, tt, tt, tt, tt, tt, tt, tt, tt, tt, tt, tt, tt, tt, ff, ff, ff, ff, ff, ff, ff, ff, ff, ff, ff, tt, tt, tt, tt, tt, tt, tt, tt, tt, tt, tt, tt, tt, tt, tt, tt, tt, tt, tt, tt, tt, tt, tt, tt, tt, tt, tt, tt, tt, tt, tt, tt, tt, tt, tt, tt, tt, tt, tt, tt, tt, tt, tt, tt, tt, tt, tt, tt, tt, tt, tt, tt, tt, tt, tt, tt, tt, tt, tt, tt, tt, tt, tt, tt, tt, tt, tt, tt, tt, tt, tt, tt, tt, tt, tt, tt, tt, tt, tt, tt, tt, tt, tt, tt, tt, tt, tt, tt, tt, tt, tt, tt, tt, tt, tt, tt, tt, tt, tt, tt, tt, tt, tt, tt, tt, tt, tt, tt, tt, tt, tt, tt, tt, tt, tt, tt, tt, tt, tt, tt, tt, tt, tt, tt, tt, tt, tt, tt, tt, tt, tt, tt, tt, tt, tt, tt, tt, tt, tt, tt, tt, tt, tt, tt, tt, tt, tt, tt, tt, tt, tt, tt, tt, tt, tt, tt, tt, tt, tt, tt, tt, tt, tt, tt, tt, tt, tt, tt, tt, tt, tt, tt, tt, tt, tt, tt, tt, tt, tt, tt, tt, tt, tt, tt, tt, tt, tt, tt, tt, tt, tt, tt, tt, tt, tt, tt, tt, tt, tt, tt, tt, tt, tt, tt, tt, tt, tt, tt, tt, tt, tt, tt, tt, tt, tt, tt, tt, tt, tt, tt, tt, ff, ff, ff, ff, ff, ff, ff, ff, ff, ff, ff, ff, ff, ff, ff, ff, ff, ff, ff, ff, ff, ff, ff, ff, ff, ff, ff, ff, ff, ff, ff, ff, ff, ff, ff, ff, ff, ff, ff, ff, ff, ff, ff, ff, ff, ff, ff, ff, ff, ff, ff, ff, ff, ff, ff, ff, ff, ff, ff, ff, ff, ff, ff, ff, ff, ff, ff, ff, ff, ff, ff, ff, ff, ff, ff, ff, ff, ff, ff, ff, ff, ff, ff, ff, ff, ff] (fun f_ wc => ∃ (kq : Nat), Aside0 (laws_FnFiltersInWords.j2 kq l1 = some r) ∧ Aside0 (kq ≤ k) ∧ Aside0 (wc.heap[gb449]? = some (.cells #[.int .i64 t439, .bool t440] 44 (0, 0))) ∧ Aside0 (Below w.heap.size w wc)) ?first_j2 ?rest_j2
       case first_j2 => as_aux_lemma =>
        intro J_ K_ hJ_j2 hK_
        have H := HC17.out
        clear HC17
        by_cases c34 : t453 = true
        ·subst c34
         have H1 : ((impl_FilterShort.f k t441 t444).bind fun bt468 => ((impl_RangeOf.f t439 t440).bind fun bt472 => (if bt472.2.2 = true then (if (t450.length : Int) = (t444.length : Int) then (if (t458.length : Int) = (t444.length : Int) then (laws_FnFiltersInWords.l0 k l1 t441 t447 t448 t450 t458 bt468.1 bt468.2 bt472.1 bt472.2.1 (t450.length : Int) 0 t439 t440) else (some false)) else (some false)) else (some false)))) = some r := by rw [if_pos rfl] at H; exact H
         clear H
         have H := H1
         clear H1
         replace H := Option.bind_eq_some_iff.mp H
         obtain ⟨⟨t468, t469⟩, A350, H⟩ := H
         replace H : ((impl_RangeOf.f t439 t440).bind fun bt472 => (if bt472.2.2 = true then (if (t450.length : Int) = (t444.length : Int) then (if (t458.length : Int) = (t444.length : Int) then (laws_FnFiltersInWords.l0 k l1 t441 t447 t448 t450 t458 t468 t469 bt472.1 bt472.2.1 (t450.length : Int) 0 t439 t440) else (some false)) else (some false)) else (some false))) = some r := H
         have A35 := Aside0.mk A350
         clear A350
         replace H := Option.bind_eq_some_iff.mp H
         obtain ⟨⟨t472, t473, t474⟩, A360, H⟩ := H
         replace H : (if t474 = true then (if (t450.length : Int) = (t444.length : Int) then (if (t458.length : Int) = (t444.length : Int) then (laws_FnFiltersInWords.l0 k l1 t441 t447 t448 t450 t458 t468 t469 t472 t473 (t450.length : Int) 0 t439 t440) else (some false)) else (some false)) else (some false)) = some r := H
         have A36 := Aside0.mk A360
         clear A360
         by_cases c37 : t474 = true
         ·subst c37
          have H1 : (if (t450.length : Int) = (t444.length : Int) then (if (t458.length : Int) = (t444.length : Int) then (laws_FnFiltersInWords.l0 k l1 t441 t447 t448 t450 t458 t468 t469 t472 t473 (t450.length : Int) 0 t439 t440) else (some false)) else (some false)) = some r := by rw [if_pos rfl] at H; exact H
          clear H
          have H := H1
          clear H1
          by_cases c38 : (t450.length : Int) = (t444.length : Int)
          ·rw [if_pos c38] at H
           have c38b0 : ((t450.length : Int) == (t444.length : Int)) = true := beq_iff_eq.mpr c38
           have c38b1 : ((t450.length : Int) != (t444.length : Int)) = false := bne_eq_false_iff_eq.mpr c38
           have c38b2 : (t450.length == t444.length) = true := by first | simpa using c38 | (simp at c38 ⊢; omega)
           clear c38
           (first | rw [c38b0] | (simp only [i64_w, i32_w]; rw [c38b0]) | skip)
           by_cases c39 : (t458.length : Int) = (t444.length : Int)
           ·rw [if_pos c39] at H
            have c39b0 : ((t458.length : Int) == (t444.length : Int)) = true := beq_iff_eq.mpr c39
            have c39b1 : ((t458.length : Int) != (t444.length : Int)) = false := bne_eq_false_iff_eq.mpr c39
            have c39b2 : (t458.length == t444.length) = true := by first | simpa using c39 | (simp at c39 ⊢; omega)
            clear c39
            have H' := Aside0.mk H
            clear H
            go_wp2_with (first | ((with_reducible refine gate_callee (f := 33) rfl ?_); refine goesL_ (some 119) rfl rfl Try.func33 (by kernel_rfl) rfl #[.slice Ao21 t441.length co21, .slice Ao22 t444.length co22] rfl (by (try simp only [List.map_toArray, List.map_cons, List.map_nil]); first | done | rfl | (simp only [List.length_drop, List.length_take]; rfl)) ?_; (with_reducible refine (impl_FilterShort.calls k _ _ t441 _ _ t444 t468 t469 _ ?side1 ?side2 ?side3 ?side4 A35.out).mono ?_); (case side1 => repeat (first | exact (Kd.R_reads' HO443.out).2.2 | (with_reducible refine Kd.C_alloc ?_ _) | (with_reducible refine Kd.C_drewN ?_ _) | (with_reducible refine Kd.C_drew ?_))); (case side2 => exact (Kd.R_reads' HO443.out).2.1); (case side3 => repeat (first | exact (Kd.R_reads' HO446.out).2.2 | (with_reducible refine Kd.C_alloc ?_ _) | (with_reducible refine Kd.C_drewN ?_ _) | (with_reducible refine Kd.C_drew ?_))); (case side4 => exact (Kd.R_reads' HO446.out).2.1); rintro e w40 ⟨v470, rfl, ho0, hb⟩; refine ⟨_, rfl, ?_⟩; have n0_ := Aside0.mk (Kd.R_elder' (by (with_reducible repeat (first | apply Kd.R_alloc | apply Kd.R_drewN | apply Kd.R_drew)); exact HO443.out) (Kd.R_base ho0) hb); have n1_ := Aside0.mk (Kd.R_elder' (by (with_reducible repeat (first | apply Kd.R_alloc | apply Kd.R_drewN | apply Kd.R_drew)); exact HO446.out) (Kd.R_base ho0) hb); have n2_ := Aside0.mk (Kd.R_elder' (by (with_reducible repeat (first | apply Kd.R_alloc | apply Kd.R_drewN | apply Kd.R_drew)); exact HO452.out) (Kd.R_base ho0) hb); have n3_ := Aside0.mk (Kd.R_elder' (by (with_reducible repeat (first | apply Kd.R_alloc | apply Kd.R_drewN | apply Kd.R_drew)); exact HO456.out) (Kd.R_base ho0) hb); have n4_ := Aside0.mk (Kd.R_elder' (by (with_reducible repeat (first | apply Kd.R_alloc | apply Kd.R_drewN | apply Kd.R_drew)); exact HO460.out) (Kd.R_base ho0) hb); have n5_ := Aside0.mk (Kd.R_elder' (by (with_reducible repeat (first | apply Kd.R_alloc | apply Kd.R_drewN | apply Kd.R_drew)); exact HO464.out) (Kd.R_base ho0) hb); have n6_ := Aside0.mk (Kd.R_lower (Kd.R_new' (Kd.R_new' (Kd.R_new' (Kd.R_new' (Kd.R_new' (Kd.R_new' ho0 (Kd.R_lt (by (with_reducible repeat (first | apply Kd.R_alloc | apply Kd.R_drewN | apply Kd.R_drew)); exact HO443.out))) (Kd.R_lt (by (with_reducible repeat (first | apply Kd.R_alloc | apply Kd.R_drewN | apply Kd.R_drew)); exact HO446.out))) (Kd.R_lt (by (with_reducible repeat (first | apply Kd.R_alloc | apply Kd.R_drewN | apply Kd.R_drew)); exact HO452.out))) (Kd.R_lt (by (with_reducible repeat (first | apply Kd.R_alloc | apply Kd.R_drewN | apply Kd.R_drew)); exact HO456.out))) (Kd.R_lt (by (with_reducible repeat (first | apply Kd.R_alloc | apply Kd.R_drewN | apply Kd.R_drew)); exact HO460.out))) (Kd.R_lt (by (with_reducible repeat (first | apply Kd.R_alloc | apply Kd.R_drewN | apply Kd.R_drew)); exact HO464.out))) (below_size (by repeat (first | (with_reducible first | exact HB.out | apply below_alloc | apply pw_below_drewN | apply below_drew1 | refine below_set ?_ GE449.out) | exact HB.out)))); have n7_ := Aside0.mk (blk_below (g := gb449) (o := .cells #[.int .i64 t439, .bool t440] 44 (0, 0)) (by (with_reducible repeat (first | refine blk_drewN ?_ _ | refine blk_drew ?_ | refine blk_alloc ?_ _)); exact BK449.out) hb); have n8_ := Aside0.mk (below_step (by repeat (first | (with_reducible first | exact HB.out | apply below_alloc | apply pw_below_drewN | apply below_drew1 | refine below_set ?_ GE449.out) | exact HB.out)) hb); clear HO443; clear HO446; clear HO452; clear HO456; clear HO460; clear HO464; clear BK449; clear HB; have HO443 := n0_; have HO446 := n1_; have HO452 := n2_; have HO456 := n3_; have HO460 := n4_; have HO464 := n5_; have HO471 := n6_; have BK449 := n7_; have HB := n8_; clear n0_ n1_ n2_ n3_ n4_ n5_ n6_ n7_ n8_; (try clear hb); (try clear hb2); (try clear hk); (try clear hi); (try clear ho0); have hcz41_0 : w40.cell? ⟨gb449, 0, none⟩ = some (.int .i64 t439) := (blk_cell BK449.out 0).trans rfl; have hcz41_1 : w40.cell? ⟨gb449, 1, none⟩ = some (.bool t440) := (blk_cell BK449.out 1).trans rfl; have hfz41_0 := blk_frozen BK449.out 0; have hfz41_1 := blk_frozen BK449.out 1) | ((with_reducible refine gate_callee (f := 34) rfl ?_); refine goesL_ (some 124) rfl rfl Try.func34 (by kernel_rfl) rfl #[.agg #[.int .i64 t439, .bool t440]] rfl (by (try simp only [List.map_toArray, List.map_cons, List.map_nil]); first | done | rfl | (simp only [List.length_drop, List.length_take]; rfl)) ?_; (with_reducible refine (impl_RangeOf.calls t439 t440 t472 t473 true _ A36.out).mono ?_); rintro e w42 ⟨rfl, hb⟩; refine ⟨_, rfl, ?_⟩; have n0_ := Aside0.mk (Kd.R_below (by (with_reducible repeat (first | apply Kd.R_alloc | apply Kd.R_drewN | apply Kd.R_drew)); exact HO443.out) hb); have n1_ := Aside0.mk (Kd.R_below (by (with_reducible repeat (first | apply Kd.R_alloc | apply Kd.R_drewN | apply Kd.R_drew)); exact HO446.out) hb); have n2_ := Aside0.mk (Kd.R_below (by (with_reducible repeat (first | apply Kd.R_alloc | apply Kd.R_drewN | apply Kd.R_drew)); exact HO452.out) hb); have n3_ := Aside0.mk (Kd.R_below (by (with_reducible repeat (first | apply Kd.R_alloc | apply Kd.R_drewN | apply Kd.R_drew)); exact HO456.out) hb); have n4_ := Aside0.mk (Kd.R_below (by (with_reducible repeat (first | apply Kd.R_alloc | apply Kd.R_drewN | apply Kd.R_drew)); exact HO460.out) hb); have n5_ := Aside0.mk (Kd.R_below (by (with_reducible repeat (first | apply Kd.R_alloc | apply Kd.R_drewN | apply Kd.R_drew)); exact HO464.out) hb); have n6_ := Aside0.mk (Kd.R_below (by (with_reducible repeat (first | apply Kd.R_alloc | apply Kd.R_drewN | apply Kd.R_drew)); exact HO471.out) hb); have n7_ := Aside0.mk (blk_below (g := gb449) (o := .cells #[.int .i64 t439, .bool t440] 44 (0, 0)) (by (with_reducible repeat (first | refine blk_drewN ?_ _ | refine blk_drew ?_ | refine blk_alloc ?_ _)); exact BK449.out) hb); have n8_ := Aside0.mk (below_step (by repeat (first | (with_reducible first | exact HB.out | apply below_alloc | apply pw_below_drewN | apply below_drew1 | refine below_set ?_ GE449.out) | exact HB.out)) hb); clear HO443; clear HO446; clear HO452; clear HO456; clear HO460; clear HO464; clear HO471; clear BK449; clear HB; have HO443 := n0_; have HO446 := n1_; have HO452 := n2_; have HO456 := n3_; have HO460 := n4_; have HO464 := n5_; have HO471 := n6_; have BK449 := n7_; have HB := n8_; clear n0_ n1_ n2_ n3_ n4_ n5_ n6_ n7_ n8_; (try clear hb); (try clear hb2); (try clear hk); (try clear hi)))
            refine loopF k [ff, ff, ff, ff, tt, ff, ff, ff, ff, ff, ff, ff, ff, ff, ff, ff, ff, ff, ff, ff, ff, ff, ff, tt, ff, ff, ff, ff, ff, ff, ff, ff, ff, ff, ff, ff, ff, ff, ff, ff, ff, ff, ff, ff, ff, ff, ff, ff, ff, ff, ff, ff, ff, ff, ff, ff, ff, ff, ff, ff, ff, ff, ff, ff, ff, ff, ff, ff, ff, ff, ff, ff, ff, ff, ff, ff, ff, ff, ff, ff, ff, ff, ff, ff, ff, ff, ff, ff, ff, ff, ff, ff, ff, ff, ff, ff, ff, ff, ff, ff, ff, ff, ff, ff, ff, ff, ff, ff, ff, ff, ff, ff, ff, ff, ff, ff, ff, ff, ff, ff, ff, ff, ff, ff, ff, ff, ff, ff, ff, ff, ff, ff, ff, ff, ff, ff, ff, ff, ff, ff, ff, ff, ff, ff, ff, ff, tt, tt, tt, tt, tt, tt, tt, tt, tt, tt, tt, tt, tt, tt, tt, tt, tt, tt, tt, tt, tt, tt, tt, tt, tt, tt, tt, tt, tt, tt, tt, tt, tt, tt, ff, ff, ff, ff, ff, ff, ff, ff, ff, ff, ff, ff, ff, ff, ff, ff, ff, ff, ff, ff, ff, ff, ff, ff, ff, ff, ff, ff, ff, ff, ff, ff, ff, ff, ff, ff, ff, ff, ff, ff, ff, ff, ff, ff, ff, ff, ff, ff, ff, ff, ff, ff, ff, ff, ff, ff, ff, ff, ff, ff, ff, ff, ff, ff, ff, ff, ff, ff, ff, ff, ff, ff, ff, ff, ff, ff, ff, ff, ff, ff, ff, ff, ff, ff, ff, ff, ff, ff, ff, ff, ff, ff, ff, ff, ff, ff, ff, ff, ff, ff, ff, ff, ff, ff, ff, ff, ff, ff, ff, ff, ff, ff, ff, ff, ff, ff, ff, ff, ff, ff, ff, ff, ff, ff, ff, ff, ff, ff, ff, ff, ff, ff, ff, ff, ff, ff, ff, ff, ff, ff, ff, ff, ff, ff, ff, ff, ff, ff, ff, ff, ff, ff, ff, ff, ff, ff, ff, ff, ff, ff, ff, ff, ff, ff, ff, ff, ff, ff, ff, ff] (fun kq f_ w' => ∃ (x146_1 : Int), (f_ 146) = .int .i64 x146_1 ∧ Aside0 (laws_FnFiltersInWords.l0 kq l1 t441 t447 t448 t450 t458 t468 t469 t472 t473 (t450.length : Int) x146_1 t439 t440 = some r) ∧ Aside0 (kq ≤ k) ∧ Aside0 (Kd.R (Kd.int .i64) 3 w' w.heap.size (fun k_ => some k_ ≠ ((.slice Ao30 t450.length co30) : Value).ownBlock ∧ some k_ ≠ ((.slice Ao32 t458.length co32) : Value).ownBlock ∧ some k_ ≠ (v470 : Value).ownBlock) (.slice Ao21 t441.length co21) t441) ∧ Aside0 (Kd.R (Kd.int .i64) 3 w' w.heap.size (fun k_ => some k_ ≠ ((.slice Ao21 t441.length co21) : Value).ownBlock ∧ some k_ ≠ ((.slice Ao32 t458.length co32) : Value).ownBlock ∧ some k_ ≠ (v470 : Value).ownBlock) (.slice Ao30 t450.length co30) t450) ∧ Aside0 (Kd.R (Kd.int .i64) 3 w' w.heap.size (fun k_ => some k_ ≠ ((.slice Ao21 t441.length co21) : Value).ownBlock ∧ some k_ ≠ ((.slice Ao30 t450.length co30) : Value).ownBlock ∧ some k_ ≠ (v470 : Value).ownBlock) (.slice Ao32 t458.length co32) t458) ∧ Aside0 (Kd.R (Kd.int .i64) 3 w' w.heap.size (fun k_ => some k_ ≠ ((.slice Ao21 t441.length co21) : Value).ownBlock ∧ some k_ ≠ ((.slice Ao30 t450.length co30) : Value).ownBlock ∧ some k_ ≠ ((.slice Ao32 t458.length co32) : Value).ownBlock) v470 t468) ∧ Aside0 (w'.heap[gb449]? = some (.cells #[.int .i64 t439, .bool t440] 44 (0, 0))) ∧ Aside0 (Below w.heap.size w w')) ?atStart_l0 ?round_l0
            case atStart_l0 => (try simp only [List.getD_cons_succ, List.getD_cons_zero]); exact ⟨(0), (by first | rfl | (simp; done) | (simp [*]; done)), H', ⟨Nat.le_refl _⟩, ⟨by (with_reducible repeat (first | apply Kd.R_alloc | apply Kd.R_drewN | apply Kd.R_drew)); exact Kd.R_mono HO443.out (fun _ hk => ⟨hk.1.1.1.1.2, ⟨hk.1.1.2, hk.2⟩⟩)⟩, ⟨by (with_reducible repeat (first | apply Kd.R_alloc | apply Kd.R_drewN | apply Kd.R_drew)); exact Kd.R_mono HO452.out (fun _ hk => ⟨hk.1.1.1.1.1.2, ⟨hk.1.1.2, hk.2⟩⟩)⟩, ⟨by (with_reducible repeat (first | apply Kd.R_alloc | apply Kd.R_drewN | apply Kd.R_drew)); exact Kd.R_mono HO460.out (fun _ hk => ⟨hk.1.1.1.1.1.2, ⟨hk.1.1.1.2, hk.2⟩⟩)⟩, ⟨by (with_reducible repeat (first | apply Kd.R_alloc | apply Kd.R_drewN | apply Kd.R_drew)); exact Kd.R_mono HO471.out (fun _ hk => ⟨hk.1.1.1.1.1.2, ⟨hk.1.1.1.2, hk.1.2⟩⟩)⟩, ⟨by (with_reducible repeat (first | refine blk_drewN ?_ _ | refine blk_drew ?_ | refine blk_alloc ?_ _)); exact BK449.out⟩, ⟨by repeat (first | (with_reducible first | exact HB.out | apply below_alloc | apply pw_below_drewN | apply below_drew1 | refine below_set ?_ GE449.out) | exact HB.out)⟩⟩
            case round_l0 => as_aux_lemma =>
             intro gk f_ wr hrel J_ K_ hL_l0 hK_
             dsimp only [ov]
             generalize f_ 146 = v146 at hrel ⊢
             clear H'
             try clear c1
             try clear c2
             try clear p2
             try clear c3
             try clear c4
             try clear c6
             try clear c10
             try clear c10b0
             try clear c10b1
             try clear c10b2
             try clear c12
             try clear c13
             try clear c13b0
             try clear c13b1
             try clear c13b2
             try clear c15
             try clear c16
             try clear c16b0
             try clear c16b1
             try clear c16b2
             try clear c28
             try clear c29
             try clear c30
             try clear c31
             try clear c32
             try clear c33
             try clear c34
             try clear c37
             try clear c38
             try clear c38b0
             try clear c38b1
             try clear c38b2
             try clear c39
             try clear c39b0
             try clear c39b1
             try clear c39b2
             try clear hcz20_0
             try clear hcz20_1
             try clear hcz24_0
             try clear hcz24_1
             try clear hcz26_0
             try clear hcz26_1
             try clear hcz28_0
             try clear hcz28_1
             try clear hcz41_0
             try clear hcz41_1
             try clear hfz20_0
             try clear hfz20_1
             try clear hfz24_0
             try clear hfz24_1
             try clear hfz26_0
             try clear hfz26_1
             try clear hfz28_0
             try clear hfz28_1
             try clear hfz41_0
             try clear hfz41_1
             obtain ⟨x146_1, rfl, HA, HK1, HO_6, HO_10, HO_14, HO_18, BK449, HB⟩ := hrel
             cases gk with
             | zero => exact absurd HA.out (by simp [laws_FnFiltersInWords.l0])
             | succ k1 =>
              have H := HA.out
              clear HA
              simp only [laws_FnFiltersInWords.l0] at H
              by_cases c43 : x146_1 < (t450.length : Int)
              ·rw [if_pos c43] at H
               have c43b0 : decide (x146_1 < (t450.length : Int)) = true := decide_eq_true c43
               clear c43
               by_cases c44 : 0 ≤ x146_1
               ·rw [if_pos c44] at H
                have c44b0 : decide (0 ≤ x146_1) = true := decide_eq_true c44
                clear c44
                by_cases c45 : x146_1 < (t450.length : Int)
                ·rw [if_pos c45] at H
                 have c45b0 : decide (x146_1 < (t450.length : Int)) = true := decide_eq_true c45
                 clear c45
                 by_cases c46 : (rd t450 x146_1) < t472
                 ·rw [if_pos c46] at H
                  have c46b0 : decide ((rd t450 x146_1) < t472) = true := decide_eq_true c46
                  clear c46
                  obtain rfl := Option.some.inj H
                  exact absurd HT.out (by simp)
                 ·rw [if_neg c46] at H
                  have c46b0 : decide ((rd t450 x146_1) < t472) = false := decide_eq_false c46
                  clear c46
                  by_cases c47 : (rd t450 x146_1) > t473
                  ·rw [if_pos c47] at H
                   have c47b0 : decide (t473 < (rd t450 x146_1)) = true := decide_eq_true c47
                   clear c47
                   obtain rfl := Option.some.inj H
                   exact absurd HT.out (by simp)
                  ·rw [if_neg c47] at H
                   have c47b0 : decide (t473 < (rd t450 x146_1)) = false := decide_eq_false c47
                   clear c47
                   by_cases c48 : x146_1 < (t458.length : Int)
                   ·rw [if_pos c48] at H
                    have c48b0 : decide (x146_1 < (t458.length : Int)) = true := decide_eq_true c48
                    clear c48
                    by_cases c49 : (rd t458 x146_1) < t472
                    ·rw [if_pos c49] at H
                     have c49b0 : decide ((rd t458 x146_1) < t472) = true := decide_eq_true c49
                     clear c49
                     obtain rfl := Option.some.inj H
                     exact absurd HT.out (by simp)
                    ·rw [if_neg c49] at H
                     have c49b0 : decide ((rd t458 x146_1) < t472) = false := decide_eq_false c49
                     clear c49
                     by_cases c50 : (rd t458 x146_1) > t473
                     ·rw [if_pos c50] at H
                      have c50b0 : decide (t473 < (rd t458 x146_1)) = true := decide_eq_true c50
                      clear c50
                      obtain rfl := Option.some.inj H
                      exact absurd HT.out (by simp)
                     ·rw [if_neg c50] at H
                      have c50b0 : decide (t473 < (rd t458 x146_1)) = false := decide_eq_false c50
                      clear c50
                      have H' := Aside0.mk H
                      clear H
                      have p475 : 0 ≤ (x146_1 : Int) := of_decide_eq_true (by first | (with_reducible assumption) | assumption)
                      have q475 : x146_1 < (t450.length : Int) := of_decide_eq_true (by first | (with_reducible assumption) | assumption)
                      obtain ⟨ad475, e475, hx475_0⟩ := Kd.at_int (Kd.R_reads' HO_10.out).2.2 x146_1 p475 q475
                      cases e475
                      replace p475 := eq_true p475
                      replace q475 := eq_true q475
                      have p476 : 0 ≤ (x146_1 : Int) := of_decide_eq_true (by first | (with_reducible assumption) | assumption)
                      have q476 : x146_1 < (t450.length : Int) := of_decide_eq_true (by first | (with_reducible assumption) | assumption)
                      obtain ⟨ad476, e476, hx476_0⟩ := Kd.at_int (Kd.R_reads' HO_10.out).2.2 x146_1 p476 q476
                      obtain rfl : ad475 = ad476 := (by injection e476)
                      replace p476 := eq_true p476
                      replace q476 := eq_true q476
                      have p477 : 0 ≤ (x146_1 : Int) := of_decide_eq_true (by first | (with_reducible assumption) | assumption)
                      have q477 : x146_1 < (t458.length : Int) := of_decide_eq_true (by first | (with_reducible assumption) | assumption)
                      obtain ⟨ad477, e477, hx477_0⟩ := Kd.at_int (Kd.R_reads' HO_14.out).2.2 x146_1 p477 q477
                      cases e477
                      replace p477 := eq_true p477
                      replace q477 := eq_true q477
                      have p478 : 0 ≤ (x146_1 : Int) := of_decide_eq_true (by first | (with_reducible assumption) | assumption)
                      have q478 : x146_1 < (t458.length : Int) := of_decide_eq_true (by first | (with_reducible assumption) | assumption)
                      obtain ⟨ad478, e478, hx478_0⟩ := Kd.at_int (Kd.R_reads' HO_14.out).2.2 x146_1 p478 q478
                      obtain rfl : ad477 = ad478 := (by injection e478)
                      replace p478 := eq_true p478
                      replace q478 := eq_true q478
                      go_wp2
                      refine handF k1 ?measure_z51 hL_l0 (by kernel_rfl) (by kernel_rfl) ?rel_z51
                      case measure_z51 => have := HK1.out; omega
                      case rel_z51 => (try simp only [List.getD_cons_succ, List.getD_cons_zero]); exact ⟨(wrap64 (x146_1 + 1)), (by first | rfl | (simp; done) | (simp [*]; done)), H', ⟨by have := HK1.out; omega⟩, ⟨by (with_reducible repeat (first | apply Kd.R_alloc | apply Kd.R_drewN | apply Kd.R_drew)); exact HO_6.out⟩, ⟨by (with_reducible repeat (first | apply Kd.R_alloc | apply Kd.R_drewN | apply Kd.R_drew)); exact HO_10.out⟩, ⟨by (with_reducible repeat (first | apply Kd.R_alloc | apply Kd.R_drewN | apply Kd.R_drew)); exact HO_14.out⟩, ⟨by (with_reducible repeat (first | apply Kd.R_alloc | apply Kd.R_drewN | apply Kd.R_drew)); exact HO_18.out⟩, ⟨by (with_reducible repeat (first | refine blk_drewN ?_ _ | refine blk_drew ?_ | refine blk_alloc ?_ _)); exact BK449.out⟩, ⟨by repeat (first | (with_reducible first | exact HB.out | apply below_alloc | apply pw_below_drewN | apply below_drew1 | refine below_set ?_ GE449.out) | exact HB.out)⟩⟩
                   ·rw [if_neg c48] at H
                    exact absurd H (by simp)
                ·rw [if_neg c45] at H
                 exact absurd H (by simp)
               ·rw [if_neg c44] at H
                exact absurd H (by simp)
              ·rw [if_neg c43] at H
               have c43b0 : decide (x146_1 < (t450.length : Int)) = false := decide_eq_false c43
               clear c43
               by_cases c52 : t469 = true
               ·subst c52
                have H1 : (laws_FnFiltersInWords.l1 k1 l1 t441 t447 t448 t450 t458 t468 t468 (t468.length : Int) 0 t439 t440) = some r := by rw [if_pos rfl] at H; exact H
                clear H
                have H := H1
                clear H1
                have H' := Aside0.mk H
                clear H
                obtain ⟨Ao53, co53, eo53⟩ := Kd.R_slice HO_18.out
                subst eo53
                go_wp2
                refine loopF k1 [ff, ff, ff, ff, tt, ff, ff, ff, ff, ff, ff, ff, ff, ff, ff, ff, ff, ff, ff, ff, ff, ff, ff, ff, tt, tt, tt, tt, tt, tt, ff, ff, ff, ff, ff, ff, ff, ff, ff, ff, ff, ff, ff, ff, ff, ff, ff, ff, ff, ff, ff, ff, ff, ff, ff, ff, ff, ff, ff, ff, ff, ff, ff, ff, ff, ff, ff, ff, ff, ff, ff, ff, ff, ff, ff, ff, ff, ff, ff, ff, ff, ff, ff, ff, ff, ff, ff, ff, ff, ff, ff, ff, ff, ff, ff, ff, ff, ff, ff, ff, ff, ff, ff, ff, ff, ff, ff, ff, ff, ff, ff, ff, ff, ff, ff, ff, ff, ff, ff, ff, ff, ff, ff, ff, ff, ff, ff, ff, ff, ff, ff, ff, ff, ff, ff, ff, ff, ff, ff, ff, ff, ff, ff, ff, ff, ff, ff, ff, ff, ff, ff, ff, ff, ff, ff, ff, ff, ff, ff, ff, ff, ff, ff, ff, ff, ff, ff, ff, ff, ff, ff, ff, ff, ff, ff, ff, ff, ff, ff, ff, ff, ff, ff, tt, tt, tt, tt, tt, tt, tt, tt, tt, tt, tt, tt, tt, tt, tt, tt, tt, tt, tt, tt, tt, tt, tt, tt, tt, tt, tt, tt, tt, tt, tt, tt, tt, tt, tt, tt, tt, tt, tt, tt, tt, tt, tt, tt, tt, tt, tt, tt, tt, tt, tt, tt, ff, ff, ff, ff, ff, ff, ff, ff, ff, ff, ff, ff, ff, ff, ff, ff, ff, ff, ff, ff, ff, ff, ff, ff, ff, ff, ff, ff, ff, ff, ff, ff, ff, ff, ff, ff, ff, ff, ff, ff, ff, ff, ff, ff, ff, ff, ff, ff, ff, ff, ff, ff, ff, ff, ff, ff, ff, ff, ff, ff, ff, ff, ff, ff, ff, ff, ff, ff, ff, ff, ff, ff, ff, ff, ff, ff, ff, ff, ff, ff, ff, ff, ff, ff, ff, ff, ff, ff, ff, ff, ff, ff, ff, ff, ff, ff, ff, ff, ff, ff, ff, ff, ff, ff, ff, ff, ff, ff, ff, ff, ff, ff, ff, ff, ff] (fun kq f_ w' => ∃ (x183_2 : Int), (f_ 183) = .int .i64 x183_2 ∧ Aside0 (laws_FnFiltersInWords.l1 kq l1 t441 t447 t448 t450 t458 t468 t468 (t468.length : Int) x183_2 t439 t440 = some r) ∧ Aside0 (kq ≤ k1) ∧ Aside0 (Kd.R (Kd.int .i64) 3 w' w.heap.size (fun k_ => some k_ ≠ ((.slice Ao30 t450.length co30) : Value).ownBlock ∧ some k_ ≠ ((.slice Ao32 t458.length co32) : Value).ownBlock ∧ some k_ ≠ ((.slice Ao53 t468.length co53) : Value).ownBlock ∧ some k_ ≠ ((.slice Ao53 t468.length co53) : Value).ownBlock) (.slice Ao21 t441.length co21) t441) ∧ Aside0 (Kd.R (Kd.int .i64) 3 w' w.heap.size (fun k_ => some k_ ≠ ((.slice Ao21 t441.length co21) : Value).ownBlock ∧ some k_ ≠ ((.slice Ao32 t458.length co32) : Value).ownBlock ∧ some k_ ≠ ((.slice Ao53 t468.length co53) : Value).ownBlock ∧ some k_ ≠ ((.slice Ao53 t468.length co53) : Value).ownBlock) (.slice Ao30 t450.length co30) t450) ∧ Aside0 (Kd.R (Kd.int .i64) 3 w' w.heap.size (fun k_ => some k_ ≠ ((.slice Ao21 t441.length co21) : Value).ownBlock ∧ some k_ ≠ ((.slice Ao30 t450.length co30) : Value).ownBlock ∧ some k_ ≠ ((.slice Ao53 t468.length co53) : Value).ownBlock ∧ some k_ ≠ ((.slice Ao53 t468.length co53) : Value).ownBlock) (.slice Ao32 t458.length co32) t458) ∧ Aside0 (Kd.R (Kd.int .i64) 3 w' w.heap.size (fun k_ => some k_ ≠ ((.slice Ao21 t441.length co21) : Value).ownBlock ∧ some k_ ≠ ((.slice Ao30 t450.length co30) : Value).ownBlock ∧ some k_ ≠ ((.slice Ao32 t458.length co32) : Value).ownBlock) (.slice Ao53 t468.length co53) t468) ∧ Aside0 (Kd.R (Kd.int .i64) 3 w' w.heap.size (fun k_ => some k_ ≠ ((.slice Ao21 t441.length co21) : Value).ownBlock ∧ some k_ ≠ ((.slice Ao30 t450.length co30) : Value).ownBlock ∧ some k_ ≠ ((.slice Ao32 t458.length co32) : Value).ownBlock) (.slice Ao53 t468.length co53) t468) ∧ Aside0 (w'.heap[gb449]? = some (.cells #[.int .i64 t439, .bool t440] 44 (0, 0))) ∧ Aside0 (Below w.heap.size w w')) ?atStart_l1 ?round_l1
                case atStart_l1 => (try simp only [List.getD_cons_succ, List.getD_cons_zero]); exact ⟨(0), (by first | rfl | (simp; done) | (simp [*]; done)), H', ⟨Nat.le_refl _⟩, ⟨by (with_reducible repeat (first | apply Kd.R_alloc | apply Kd.R_drewN | apply Kd.R_drew)); exact Kd.R_mono HO_6.out (fun _ hk => ⟨hk.1, ⟨hk.2.1, ⟨hk.2.2, hk.2.2⟩⟩⟩)⟩, ⟨by (with_reducible repeat (first | apply Kd.R_alloc | apply Kd.R_drewN | apply Kd.R_drew)); exact Kd.R_mono HO_10.out (fun _ hk => ⟨hk.1, ⟨hk.2.1, ⟨hk.2.2, hk.2.2⟩⟩⟩)⟩, ⟨by (with_reducible repeat (first | apply Kd.R_alloc | apply Kd.R_drewN | apply Kd.R_drew)); exact Kd.R_mono HO_14.out (fun _ hk => ⟨hk.1, ⟨hk.2.1, ⟨hk.2.2, hk.2.2⟩⟩⟩)⟩, ⟨by (with_reducible repeat (first | apply Kd.R_alloc | apply Kd.R_drewN | apply Kd.R_drew)); exact HO_18.out⟩, ⟨by (with_reducible repeat (first | apply Kd.R_alloc | apply Kd.R_drewN | apply Kd.R_drew)); exact HO_18.out⟩, ⟨by (with_reducible repeat (first | refine blk_drewN ?_ _ | refine blk_drew ?_ | refine blk_alloc ?_ _)); exact BK449.out⟩, ⟨by repeat (first | (with_reducible first | exact HB.out | apply below_alloc | apply pw_below_drewN | apply below_drew1 | refine below_set ?_ GE449.out) | exact HB.out)⟩⟩
                case round_l1 => as_aux_lemma =>
                 intro gk f_ wr hrel J_ K_ hL_l1 hK_
                 dsimp only [ov]
                 generalize f_ 183 = v183 at hrel ⊢
                 clear H'
                 try clear c1
                 try clear c2
                 try clear p2
                 try clear c3
                 try clear c4
                 try clear p4
                 try clear q4
                 try clear hx4
                 try clear c5
                 try clear c6
                 try clear p6
                 try clear c10
                 try clear c10b0
                 try clear c10b1
                 try clear c10b2
                 try clear c12
                 try clear c13
                 try clear c13b0
                 try clear c13b1
                 try clear c13b2
                 try clear c15
                 try clear c16
                 try clear c16b0
                 try clear c16b1
                 try clear c16b2
                 try clear c28
                 try clear c29
                 try clear c30
                 try clear c31
                 try clear c32
                 try clear c33
                 try clear c34
                 try clear c37
                 try clear c38
                 try clear c38b0
                 try clear c38b1
                 try clear c38b2
                 try clear c39
                 try clear c39b0
                 try clear c39b1
                 try clear c39b2
                 try clear c43
                 try clear c43b0
                 try clear c44
                 try clear c44b0
                 try clear c45
                 try clear c45b0
                 try clear c46
                 try clear c46b0
                 try clear c47
                 try clear c47b0
                 try clear p47
                 try clear q47
                 try clear hx47
                 try clear c48
                 try clear c48b0
                 try clear c49
                 try clear c49b0
                 try clear c50
                 try clear c50b0
                 try clear c52
                 try clear hcz20_0
                 try clear hcz20_1
                 try clear hcz24_0
                 try clear hcz24_1
                 try clear hcz26_0
                 try clear hcz26_1
                 try clear hcz28_0
                 try clear hcz28_1
                 try clear hcz41_0
                 try clear hcz41_1
                 try clear hfz20_0
                 try clear hfz20_1
                 try clear hfz24_0
                 try clear hfz24_1
                 try clear hfz26_0
                 try clear hfz26_1
                 try clear hfz28_0
                 try clear hfz28_1
                 try clear hfz41_0
                 try clear hfz41_1
                 try clear hx475_0
                 try clear hx476_0
                 try clear hx477_0
                 try clear hx478_0
                 try clear p2
                 try clear p475
                 try clear p476
                 try clear p477
                 try clear p478
                 try clear q475
                 try clear q476
                 try clear q477
                 try clear q478
                 obtain ⟨x183_2, rfl, HA, HK2, HO_6, HO_10, HO_14, HO_18, HO_181, BK449, HB⟩ := hrel
                 cases gk with
                 | zero => exact absurd HA.out (by simp [laws_FnFiltersInWords.l1])
                 | succ k2 =>
                  have H := HA.out
                  clear HA
                  simp only [laws_FnFiltersInWords.l1] at H
                  by_cases c54 : x183_2 < (t468.length : Int)
                  ·rw [if_pos c54] at H
                   have c54b0 : decide (x183_2 < (t468.length : Int)) = true := decide_eq_true c54
                   clear c54
                   by_cases c55 : 0 ≤ x183_2
                   ·rw [if_pos c55] at H
                    have c55b0 : decide (0 ≤ x183_2) = true := decide_eq_true c55
                    clear c55
                    by_cases c56 : x183_2 < (t468.length : Int)
                    ·rw [if_pos c56] at H
                     have c56b0 : decide (x183_2 < (t468.length : Int)) = true := decide_eq_true c56
                     clear c56
                     replace H := Option.bind_eq_some_iff.mp H
                     obtain ⟨⟨t480, t481⟩, A570, H⟩ := H
                     replace H : ((impl_FitNumber.f t439 t440 t480).bind fun bt482 => (if t481 = true then (if bt482.2 = true then (if x183_2 < (t458.length : Int) then (if (rd t458 x183_2) = bt482.1 then (if t447 = 0 then (if t440 = true then (if x183_2 < (t450.length : Int) then ((laws_iWrap.f (rd t468 x183_2) t439).bind fun t486 => (if (rd t450 x183_2) = t486 then (laws_FnFiltersInWords.l1 k2 l1 t441 t447 t448 t450 t458 t468 t468 (t468.length : Int) (wrap64 (x183_2 + 1)) t439 t440) else (some false))) else (none)) else (laws_FnFiltersInWords.l1 k2 l1 t441 t447 t448 t450 t458 t468 t468 (t468.length : Int) (wrap64 (x183_2 + 1)) t439 t440)) else (laws_FnFiltersInWords.l1 k2 l1 t441 t447 t448 t450 t458 t468 t468 (t468.length : Int) (wrap64 (x183_2 + 1)) t439 t440)) else (some false)) else (none)) else (some false)) else (some false))) = some r := H
                     have A57 := Aside0.mk A570
                     clear A570
                     replace H := Option.bind_eq_some_iff.mp H
                     obtain ⟨⟨t482, t483⟩, A580, H⟩ := H
                     replace H : (if t481 = true then (if t483 = true then (if x183_2 < (t458.length : Int) then (if (rd t458 x183_2) = t482 then (if t447 = 0 then (if t440 = true then (if x183_2 < (t450.length : Int) then ((laws_iWrap.f (rd t468 x183_2) t439).bind fun t486 => (if (rd t450 x183_2) = t486 then (laws_FnFiltersInWords.l1 k2 l1 t441 t447 t448 t450 t458 t468 t468 (t468.length : Int) (wrap64 (x183_2 + 1)) t439 t440) else (some false))) else (none)) else (laws_FnFiltersInWords.l1 k2 l1 t441 t447 t448 t450 t458 t468 t468 (t468.length : Int) (wrap64 (x183_2 + 1)) t439 t440)) else (laws_FnFiltersInWords.l1 k2 l1 t441 t447 t448 t450 t458 t468 t468 (t468.length : Int) (wrap64 (x183_2 + 1)) t439 t440)) else (some false)) else (none)) else (some false)) else (some false)) = some r := H
                     have A58 := Aside0.mk A580
                     clear A580
                     by_cases c59 : t481 = true
                     ·subst c59
                      have H1 : (if t483 = true then (if x183_2 < (t458.length : Int) then (if (rd t458 x183_2) = t482 then (if t447 = 0 then (if t440 = true then (if x183_2 < (t450.length : Int) then ((laws_iWrap.f (rd t468 x183_2) t439).bind fun t486 => (if (rd t450 x183_2) = t486 then (laws_FnFiltersInWords.l1 k2 l1 t441 t447 t448 t450 t458 t468 t468 (t468.length : Int) (wrap64 (x183_2 + 1)) t439 t440) else (some false))) else (none)) else (laws_FnFiltersInWords.l1 k2 l1 t441 t447 t448 t450 t458 t468 t468 (t468.length : Int) (wrap64 (x183_2 + 1)) t439 t440)) else (laws_FnFiltersInWords.l1 k2 l1 t441 t447 t448 t450 t458 t468 t468 (t468.length : Int) (wrap64 (x183_2 + 1)) t439 t440)) else (some false)) else (none)) else (some false)) = some r := by rw [if_pos rfl] at H; exact H
                      clear H
                      have H := H1
                      clear H1
                      by_cases c60 : t483 = true
                      ·subst c60
                       have H1 : (if x183_2 < (t458.length : Int) then (if (rd t458 x183_2) = t482 then (if t447 = 0 then (if t440 = true then (if x183_2 < (t450.length : Int) then ((laws_iWrap.f (rd t468 x183_2) t439).bind fun t486 => (if (rd t450 x183_2) = t486 then (laws_FnFiltersInWords.l1 k2 l1 t441 t447 t448 t450 t458 t468 t468 (t468.length : Int) (wrap64 (x183_2 + 1)) t439 t440) else (some false))) else (none)) else (laws_FnFiltersInWords.l1 k2 l1 t441 t447 t448 t450 t458 t468 t468 (t468.length : Int) (wrap64 (x183_2 + 1)) t439 t440)) else (laws_FnFiltersInWords.l1 k2 l1 t441 t447 t448 t450 t458 t468 t468 (t468.length : Int) (wrap64 (x183_2 + 1)) t439 t440)) else (some false)) else (none)) = some r := by rw [if_pos rfl] at H; exact H
                       clear H
                       have H := H1
                       clear H1
                       by_cases c61 : x183_2 < (t458.length : Int)
                       ·rw [if_pos c61] at H
                        have c61b0 : decide (x183_2 < (t458.length : Int)) = true := decide_eq_true c61
                        clear c61
                        by_cases c62 : (rd t458 x183_2) = t482
                        ·rw [if_pos c62] at H
                         have c62b0 : ((rd t458 x183_2) == t482) = true := beq_iff_eq.mpr c62
                         have c62b1 : ((rd t458 x183_2) != t482) = false := bne_eq_false_iff_eq.mpr c62
                         clear c62
                         by_cases c63 : t447 = 0
                         ·rw [if_pos c63] at H
                          have c63b0 : (t447 == 0) = true := beq_iff_eq.mpr c63
                          have c63b1 : (t447 != 0) = false := bne_eq_false_iff_eq.mpr c63
                          clear c63
                          by_cases c64 : t440 = true
                          ·subst c64
                           have H1 : (if x183_2 < (t450.length : Int) then ((laws_iWrap.f (rd t468 x183_2) t439).bind fun t486 => (if (rd t450 x183_2) = t486 then (laws_FnFiltersInWords.l1 k2 l1 t441 t447 t448 t450 t458 t468 t468 (t468.length : Int) (wrap64 (x183_2 + 1)) t439 true) else (some false))) else (none)) = some r := by rw [if_pos rfl] at H; exact H
                           clear H
                           have H := H1
                           clear H1
                           by_cases c65 : x183_2 < (t450.length : Int)
                           ·rw [if_pos c65] at H
                            have c65b0 : decide (x183_2 < (t450.length : Int)) = true := decide_eq_true c65
                            clear c65
                            replace H := Option.bind_eq_some_iff.mp H
                            obtain ⟨t486, A660, H⟩ := H
                            replace H : (if (rd t450 x183_2) = t486 then (laws_FnFiltersInWords.l1 k2 l1 t441 t447 t448 t450 t458 t468 t468 (t468.length : Int) (wrap64 (x183_2 + 1)) t439 true) else (some false)) = some r := H
                            have A66 := Aside0.mk A660
                            clear A660
                            by_cases c67 : (rd t450 x183_2) = t486
                            ·rw [if_pos c67] at H
                             have c67b0 : ((rd t450 x183_2) == t486) = true := beq_iff_eq.mpr c67
                             have c67b1 : ((rd t450 x183_2) != t486) = false := bne_eq_false_iff_eq.mpr c67
                             clear c67
                             have H' := Aside0.mk H
                             clear H
                             have p479 : 0 ≤ (x183_2 : Int) := of_decide_eq_true (by first | (with_reducible assumption) | assumption)
                             have q479 : x183_2 < (t468.length : Int) := of_decide_eq_true (by first | (with_reducible assumption) | assumption)
                             obtain ⟨ad479, e479, hx479_0⟩ := Kd.at_int (Kd.R_reads' HO_181.out).2.2 x183_2 p479 q479
                             cases e479
                             replace p479 := eq_true p479
                             replace q479 := eq_true q479
                             try go_wp2_with (first | ((with_reducible refine gate_callee (f := 35) rfl ?_); refine goesL_ (some 192) rfl rfl Try.func35 (by kernel_rfl) rfl #[.int .i64 (rd t468 x183_2), .int .i64 t447, .int .i64 t448] rfl (by (try simp only [List.map_toArray, List.map_cons, List.map_nil]); first | done | rfl | (simp only [List.length_drop, List.length_take]; rfl)) ?_; (with_reducible refine (impl_RoundShift.calls k2 (rd t468 x183_2) t447 t448 t480 true _ A57.out).mono ?_); rintro e w' ⟨rfl, ⟨nd, rfl⟩⟩; refine ⟨_, rfl, ?_⟩; have hcz68_0 : wr.cell? ⟨gb449, 0, none⟩ = some (.int .i64 t439) := (blk_cell BK449.out 0).trans rfl; have hcz68_1 : wr.cell? ⟨gb449, 1, none⟩ = some (.bool true) := (blk_cell BK449.out 1).trans rfl; have hfz68_0 := blk_frozen BK449.out 0; have hfz68_1 := blk_frozen BK449.out 1) | ((with_reducible refine gate_callee (f := 36) rfl ?_); refine goesL_ (some 198) rfl rfl Try.func36 (by kernel_rfl) rfl #[.agg #[.int .i64 t439, .bool true], .int .i64 t480] rfl (by (try simp only [List.map_toArray, List.map_cons, List.map_nil]); first | done | rfl | (simp only [List.length_drop, List.length_take]; rfl)) ?_; (with_reducible refine (impl_FitNumber.calls t439 true t480 t482 true _ A58.out).mono ?_); rintro e w69 ⟨rfl, hb⟩; refine ⟨_, rfl, ?_⟩; have n0_ := Aside0.mk (Kd.R_below (by (with_reducible repeat (first | apply Kd.R_alloc | apply Kd.R_drewN | apply Kd.R_drew)); exact HO_6.out) hb); have n1_ := Aside0.mk (Kd.R_below (by (with_reducible repeat (first | apply Kd.R_alloc | apply Kd.R_drewN | apply Kd.R_drew)); exact HO_10.out) hb); have n2_ := Aside0.mk (Kd.R_below (by (with_reducible repeat (first | apply Kd.R_alloc | apply Kd.R_drewN | apply Kd.R_drew)); exact HO_14.out) hb); have n3_ := Aside0.mk (Kd.R_below (by (with_reducible repeat (first | apply Kd.R_alloc | apply Kd.R_drewN | apply Kd.R_drew)); exact HO_18.out) hb); have n4_ := Aside0.mk (Kd.R_below (by (with_reducible repeat (first | apply Kd.R_alloc | apply Kd.R_drewN | apply Kd.R_drew)); exact HO_181.out) hb); have n5_ := Aside0.mk (blk_below (g := gb449) (o := .cells #[.int .i64 t439, .bool true] 44 (0, 0)) (by (with_reducible repeat (first | refine blk_drewN ?_ _ | refine blk_drew ?_ | refine blk_alloc ?_ _)); exact BK449.out) hb); have n6_ := Aside0.mk (below_step (by repeat (first | (with_reducible first | exact HB.out | apply below_alloc | apply pw_below_drewN | apply below_drew1 | refine below_set ?_ GE449.out) | exact HB.out)) hb); clear HO_6; clear HO_10; clear HO_14; clear HO_18; clear HO_181; clear BK449; clear HB; have HO_6 := n0_; have HO_10 := n1_; have HO_14 := n2_; have HO_18 := n3_; have HO_181 := n4_; have BK449 := n5_; have HB := n6_; clear n0_ n1_ n2_ n3_ n4_ n5_ n6_; (try clear hb); (try clear hb2); (try clear hk); (try clear hi)))
                             have n0_ := Aside0.mk (Kd.R_drew HO_6.out)
                             have n1_ := Aside0.mk (Kd.R_drew HO_10.out)
                             have n2_ := Aside0.mk (Kd.R_drew HO_14.out)
                             have n3_ := Aside0.mk (Kd.R_drew HO_18.out)
                             have n4_ := Aside0.mk (Kd.R_drew HO_181.out)
                             have n5_ := Aside0.mk (blk_drew BK449.out)
                             have n6_ := Aside0.mk (below_drew1 HB.out)
                             clear HO_6
                             clear HO_10
                             clear HO_14
                             clear HO_18
                             clear HO_181
                             clear BK449
                             clear HB
                             have HO_6 := n0_
                             have HO_10 := n1_
                             have HO_14 := n2_
                             have HO_18 := n3_
                             have HO_181 := n4_
                             have BK449 := n5_
                             have HB := n6_
                             clear n0_ n1_ n2_ n3_ n4_ n5_ n6_
                             have p484 : 0 ≤ (x183_2 : Int) := of_decide_eq_true (by first | (with_reducible assumption) | assumption)
                             have q484 : x183_2 < (t458.length : Int) := of_decide_eq_true (by first | (with_reducible assumption) | assumption)
                             obtain ⟨ad484, e484, hx484_0⟩ := Kd.at_int (Kd.R_reads' HO_14.out).2.2 x183_2 p484 q484
                             cases e484
                             replace p484 := eq_true p484
                             replace q484 := eq_true q484
                             have p485 : 0 ≤ (x183_2 : Int) := of_decide_eq_true (by first | (with_reducible assumption) | assumption)
                             have q485 : x183_2 < (t450.length : Int) := of_decide_eq_true (by first | (with_reducible assumption) | assumption)
                             obtain ⟨ad485, e485, hx485_0⟩ := Kd.at_int (Kd.R_reads' HO_10.out).2.2 x183_2 p485 q485
                             cases e485
                             replace p485 := eq_true p485
                             replace q485 := eq_true q485
                             refine start_ (n := 33) (S := fun w' => w'.cell? ⟨gb449, 0, none⟩ = some (.int .i64 t439) ∧ w'.cell? ⟨gb449, 1, none⟩ = some (.bool true) ∧ w'.cell? (ad484.add (x183_2).toNat) = some (.int .i64 (rd t458 x183_2)) ∧ w'.cell? (ad485.add (x183_2).toNat) = some (.int .i64 (rd t450 x183_2))) (ds := []) #[false, false, false, false, false, false, false, false, false, false, false, false, false, false, false, false, false, false, false, false, false, false, false, false, false, false, false, false, false, false, false, false, false] (by kernel_rfl) rfl rfl ⟨(blk_cell BK449.out 0).trans rfl, (blk_cell BK449.out 1).trans rfl, hx484_0, hx485_0⟩ (fun hHeld => ?_); refine with_tabW laws_FnFiltersInWords.tab27 laws_FnFiltersInWords.bits27 (fun HT_ HW_ => ?_)
                             generalize w69.drew = w70 at HO_6 HO_10 HO_14 HO_18 HO_181 BK449 HB hx484_0 hx485_0 hHeld ⊢
                             refine pure_ (i := 0) (N := some 201) (v := ?_) (a' := ?_) #[true, false, false, false, false, false, false, false, false, false, false, false, false, false, false, false, false, false, false, false, false, false, false, false, false, false, false, false, false, false, false, false, false] rfl rfl (any_of HT_.out (by kernel_rfl)) (fun _ _ _ h => h) (Or.inl ⟨by rfl, ?_⟩) ?_ ?_
                             rotate_left
                             ·intro w'
                              go_simp
                              with_reducible rfl
                             rotate_left
                             ·simp only [Act.put, List.setIfInBounds_toArray, List.set_cons_zero, List.set_cons_succ, i64_w, i32_w]
                              rfl
                             refine pure_ (i := 1) (N := some 202) (v := ?_) (a' := ?_) #[true, true, false, false, false, false, false, false, false, false, false, false, false, false, false, false, false, false, false, false, false, false, false, false, false, false, false, false, false, false, false, false, false] rfl rfl (any_of HT_.out (by kernel_rfl)) (fun _ _ _ h => h) (Or.inl ⟨by rfl, ?_⟩) ?_ ?_
                             rotate_left
                             ·intro w'
                              go_simp
                              with_reducible rfl
                             rotate_left
                             ·simp only [Act.put, List.setIfInBounds_toArray, List.set_cons_zero, List.set_cons_succ, i64_w, i32_w]
                              rfl
                             refine pure_ (i := 2) (N := some 203) (v := ?_) (a' := ?_) #[true, true, true, false, false, false, false, false, false, false, false, false, false, false, false, false, false, false, false, false, false, false, false, false, false, false, false, false, false, false, false, false, false] rfl rfl (any_of HT_.out (by kernel_rfl)) (fun _ _ _ h => h) (Or.inl ⟨by rfl, ?_⟩) ?_ ?_
                             rotate_left
                             ·intro w'
                              go_simp
                              with_reducible rfl
                             rotate_left
                             ·simp only [Act.put, List.setIfInBounds_toArray, List.set_cons_zero, List.set_cons_succ, i64_w, i32_w]
                              rfl
                             refine pure_ (i := 3) (N := some 204) (v := ?_) (a' := ?_) #[true, true, true, true, false, false, false, false, false, false, false, false, false, false, false, false, false, false, false, false, false, false, false, false, false, false, false, false, false, false, false, false, false] rfl rfl (any_of HT_.out (by kernel_rfl)) (fun _ _ _ h => h) (Or.inl ⟨by rfl, ?_⟩) ?_ ?_
                             rotate_left
                             ·intro w'
                              go_simp
                              with_reducible rfl
                             rotate_left
                             ·simp only [Act.put, List.setIfInBounds_toArray, List.set_cons_zero, List.set_cons_succ, i64_w, i32_w]
                              rfl
                             refine pure_ (i := 4) (N := some 205) (v := ?_) (a' := ?_) #[true, true, true, true, true, false, false, false, false, false, false, false, false, false, false, false, false, false, false, false, false, false, false, false, false, false, false, false, false, false, false, false, false] rfl rfl (any_of HT_.out (by kernel_rfl)) (fun _ _ _ h => h) (Or.inl ⟨by rfl, ?_⟩) ?_ ?_
                             rotate_left
                             ·intro w'
                              go_simp
                              with_reducible rfl
                             rotate_left
                             ·simp only [Act.put, List.setIfInBounds_toArray, List.set_cons_zero, List.set_cons_succ, i64_w, i32_w]
                              rfl
                             refine pure_ (i := 5) (N := some 206) (v := ?_) (a' := ?_) #[true, true, true, true, true, true, false, false, false, false, false, false, false, false, false, false, false, false, false, false, false, false, false, false, false, false, false, false, false, false, false, false, false] rfl rfl (any_of HT_.out (by kernel_rfl)) (fun _ _ _ h => h) (Or.inl ⟨by rfl, ?_⟩) ?_ ?_
                             rotate_left
                             ·intro w'
                              go_simp
                              with_reducible rfl
                             rotate_left
                             ·simp only [Act.put, List.setIfInBounds_toArray, List.set_cons_zero, List.set_cons_succ, i64_w, i32_w]
                              rfl
                             refine pure_ (i := 6) (N := some 207) (v := ?_) (a' := ?_) #[true, true, true, true, true, true, true, false, false, false, false, false, false, false, false, false, false, false, false, false, false, false, false, false, false, false, false, false, false, false, false, false, false] rfl rfl (any_of HT_.out (by kernel_rfl)) (fun _ _ _ h => h) (Or.inl ⟨by rfl, ?_⟩) ?_ ?_
                             rotate_left
                             ·intro w'
                              go_simp
                              with_reducible rfl
                             rotate_left
                             ·simp only [Act.put, List.setIfInBounds_toArray, List.set_cons_zero, List.set_cons_succ, i64_w, i32_w]
                              rfl
                             refine pure_ (i := 7) (N := some 208) (v := ?_) (a' := ?_) #[true, true, true, true, true, true, true, true, false, false, false, false, false, false, false, false, false, false, false, false, false, false, false, false, false, false, false, false, false, false, false, false, false] rfl rfl (any_of HT_.out (by kernel_rfl)) (fun _ _ _ h => h) (Or.inl ⟨by rfl, ?_⟩) ?_ ?_
                             rotate_left
                             ·intro w'
                              go_simp
                              with_reducible rfl
                             rotate_left
                             ·simp only [Act.put, List.setIfInBounds_toArray, List.set_cons_zero, List.set_cons_succ, i64_w, i32_w]
                              rfl
                             refine pure_ (i := 8) (N := some 209) (v := ?_) (a' := ?_) #[true, true, true, true, true, true, true, true, true, false, false, false, false, false, false, false, false, false, false, false, false, false, false, false, false, false, false, false, false, false, false, false, false] rfl rfl (any_of HT_.out (by kernel_rfl)) (fun _ _ _ h => h) (Or.inl ⟨by rfl, ?_⟩) ?_ ?_
                             rotate_left
                             ·intro w'
                              go_simp
                              with_reducible rfl
                             rotate_left
                             ·simp only [Act.put, List.setIfInBounds_toArray, List.set_cons_zero, List.set_cons_succ, i64_w, i32_w]
                              rfl
                             refine pure_ (i := 9) (N := some 210) (v := ?_) (a' := ?_) #[true, true, true, true, true, true, true, true, true, true, false, false, false, false, false, false, false, false, false, false, false, false, false, false, false, false, false, false, false, false, false, false, false] rfl rfl (any_of HT_.out (by kernel_rfl)) (fun _ _ _ h => h) (Or.inl ⟨by rfl, ?_⟩) ?_ ?_
                             rotate_left
                             ·intro w'
                              go_simp
                              with_reducible rfl
                             rotate_left
                             ·simp only [Act.put, List.setIfInBounds_toArray, List.set_cons_zero, List.set_cons_succ, i64_w, i32_w]
                              rfl
                             refine pure_ (i := 11) (N := some 212) (v := ?_) (a' := ?_) #[true, true, true, true, true, true, true, true, true, true, false, true, false, false, false, false, false, false, false, false, false, false, false, false, false, false, false, false, false, false, false, false, false] rfl rfl (any_of HT_.out (by kernel_rfl)) (fun _ _ _ h => h) (Or.inl ⟨by rfl, ?_⟩) ?_ ?_
                             rotate_left
                             ·intro w'
                              go_simp
                              with_reducible rfl
                             rotate_left
                             ·simp only [Act.put, List.setIfInBounds_toArray, List.set_cons_zero, List.set_cons_succ, i64_w, i32_w]
                              rfl
                             refine take_ (i := 10) (N := some 211) (v := ?_) (a' := ?_) #[true, true, true, true, true, true, true, true, true, true, true, true, false, false, false, false, false, false, false, false, false, false, false, false, false, false, false, false, false, false, false, false, false] rfl rfl (take_ofW HT_.out HW_.out (by kernel_rfl)) (fun _ _ _ h => h) (Or.inl ⟨by rfl, ?_⟩) hHeld ?_ ?_
                             rotate_left
                             ·rintro w' ⟨s0, s1, s2, s3⟩
                              go_simp
                              with_reducible rfl
                             rotate_left
                             ·simp only [Act.put, List.setIfInBounds_toArray, List.set_cons_zero, List.set_cons_succ, i64_w, i32_w]
                              rfl
                             refine pure_ (i := 12) (N := some 213) (v := ?_) (a' := ?_) #[true, true, true, true, true, true, true, true, true, true, true, true, true, false, false, false, false, false, false, false, false, false, false, false, false, false, false, false, false, false, false, false, false] rfl rfl (any_of HT_.out (by kernel_rfl)) (fun _ _ _ h => h) (Or.inl ⟨by rfl, ?_⟩) ?_ ?_
                             rotate_left
                             ·intro w'
                              go_simp
                              with_reducible rfl
                             rotate_left
                             ·simp only [Act.put, List.setIfInBounds_toArray, List.set_cons_zero, List.set_cons_succ, i64_w, i32_w]
                              rfl
                             refine pure_ (i := 13) (N := some 214) (v := ?_) (a' := ?_) #[true, true, true, true, true, true, true, true, true, true, true, true, true, true, false, false, false, false, false, false, false, false, false, false, false, false, false, false, false, false, false, false, false] rfl rfl (any_of HT_.out (by kernel_rfl)) (fun _ _ _ h => h) (Or.inl ⟨by rfl, ?_⟩) ?_ ?_
                             rotate_left
                             ·intro w'
                              go_simp
                              with_reducible rfl
                             rotate_left
                             ·simp only [Act.put, List.setIfInBounds_toArray, List.set_cons_zero, List.set_cons_succ, i64_w, i32_w]
                              rfl
                             refine pure_ (i := 14) (N := some 215) (v := ?_) (a' := ?_) #[true, true, true, true, true, true, true, true, true, true, true, true, true, true, true, false, false, false, false, false, false, false, false, false, false, false, false, false, false, false, false, false, false] rfl rfl (any_of HT_.out (by kernel_rfl)) (fun _ _ _ h => h) (Or.inl ⟨by rfl, ?_⟩) ?_ ?_
                             rotate_left
                             ·intro w'
                              go_simp
                              with_reducible rfl
                             rotate_left
                             ·simp only [Act.put, List.setIfInBounds_toArray, List.set_cons_zero, List.set_cons_succ, i64_w, i32_w]
                              rfl
                             refine pure_ (i := 15) (N := some 216) (v := ?_) (a' := ?_) #[true, true, true, true, true, true, true, true, true, true, true, true, true, true, true, true, false, false, false, false, false, false, false, false, false, false, false, false, false, false, false, false, false] rfl rfl (any_of HT_.out (by kernel_rfl)) (fun _ _ _ h => h) (Or.inl ⟨by rfl, ?_⟩) ?_ ?_
                             rotate_left
                             ·intro w'
                              go_simp
                              with_reducible rfl
                             rotate_left
                             ·simp only [Act.put, List.setIfInBounds_toArray, List.set_cons_zero, List.set_cons_succ, i64_w, i32_w]
                              rfl
                             refine pure_ (i := 16) (N := some 217) (v := ?_) (a' := ?_) #[true, true, true, true, true, true, true, true, true, true, true, true, true, true, true, true, true, false, false, false, false, false, false, false, false, false, false, false, false, false, false, false, false] rfl rfl (any_of HT_.out (by kernel_rfl)) (fun _ _ _ h => h) (Or.inl ⟨by rfl, ?_⟩) ?_ ?_
                             rotate_left
                             ·intro w'
                              go_simp
                              with_reducible rfl
                             rotate_left
                             ·simp only [Act.put, List.setIfInBounds_toArray, List.set_cons_zero, List.set_cons_succ, i64_w, i32_w]
                              rfl
                             refine pure_ (i := 17) (N := some 218) (v := ?_) (a' := ?_) #[true, true, true, true, true, true, true, true, true, true, true, true, true, true, true, true, true, true, false, false, false, false, false, false, false, false, false, false, false, false, false, false, false] rfl rfl (any_of HT_.out (by kernel_rfl)) (fun _ _ _ h => h) (Or.inl ⟨by rfl, ?_⟩) ?_ ?_
                             rotate_left
                             ·intro w'
                              go_simp
                              with_reducible rfl
                             rotate_left
                             ·simp only [Act.put, List.setIfInBounds_toArray, List.set_cons_zero, List.set_cons_succ, i64_w, i32_w]
                              rfl
                             refine pure_ (i := 18) (N := some 219) (v := ?_) (a' := ?_) #[true, true, true, true, true, true, true, true, true, true, true, true, true, true, true, true, true, true, true, false, false, false, false, false, false, false, false, false, false, false, false, false, false] rfl rfl (any_of HT_.out (by kernel_rfl)) (fun _ _ _ h => h) (Or.inl ⟨by rfl, ?_⟩) ?_ ?_
                             rotate_left
                             ·intro w'
                              go_simp
                              with_reducible rfl
                             rotate_left
                             ·simp only [Act.put, List.setIfInBounds_toArray, List.set_cons_zero, List.set_cons_succ, i64_w, i32_w]
                              rfl
                             refine take_ (i := 19) (N := some 220) (v := ?_) (a' := ?_) #[true, true, true, true, true, true, true, true, true, true, true, true, true, true, true, true, true, true, true, true, false, false, false, false, false, false, false, false, false, false, false, false, false] rfl rfl (take_ofW HT_.out HW_.out (by kernel_rfl)) (fun _ _ _ h => h) (Or.inl ⟨by rfl, ?_⟩) hHeld ?_ ?_
                             rotate_left
                             ·rintro w' ⟨s0, s1, s2, s3⟩
                              go_simp
                              with_reducible rfl
                             rotate_left
                             ·simp only [Act.put, List.setIfInBounds_toArray, List.set_cons_zero, List.set_cons_succ, i64_w, i32_w]
                              rfl
                             refine pure_ (i := 20) (N := some 221) (v := ?_) (a' := ?_) #[true, true, true, true, true, true, true, true, true, true, true, true, true, true, true, true, true, true, true, true, true, false, false, false, false, false, false, false, false, false, false, false, false] rfl rfl (any_of HT_.out (by kernel_rfl)) (fun _ _ _ h => h) (Or.inl ⟨by rfl, ?_⟩) ?_ ?_
                             rotate_left
                             ·intro w'
                              go_simp
                              with_reducible rfl
                             rotate_left
                             ·simp only [Act.put, List.setIfInBounds_toArray, List.set_cons_zero, List.set_cons_succ, i64_w, i32_w]
                              rfl
                             refine pure_ (i := 21) (N := some 222) (v := ?_) (a' := ?_) #[true, true, true, true, true, true, true, true, true, true, true, true, true, true, true, true, true, true, true, true, true, true, false, false, false, false, false, false, false, false, false, false, false] rfl rfl (any_of HT_.out (by kernel_rfl)) (fun _ _ _ h => h) (Or.inl ⟨by rfl, ?_⟩) ?_ ?_
                             rotate_left
                             ·intro w'
                              go_simp
                              with_reducible rfl
                             rotate_left
                             ·simp only [Act.put, List.setIfInBounds_toArray, List.set_cons_zero, List.set_cons_succ, i64_w, i32_w]
                              rfl
                             refine pure_ (i := 22) (N := some 223) (v := ?_) (a' := ?_) #[true, true, true, true, true, true, true, true, true, true, true, true, true, true, true, true, true, true, true, true, true, true, true, false, false, false, false, false, false, false, false, false, false] rfl rfl (any_of HT_.out (by kernel_rfl)) (fun _ _ _ h => h) (Or.inl ⟨by rfl, ?_⟩) ?_ ?_
                             rotate_left
                             ·intro w'
                              go_simp
                              with_reducible rfl
                             rotate_left
                             ·simp only [Act.put, List.setIfInBounds_toArray, List.set_cons_zero, List.set_cons_succ, i64_w, i32_w]
                              rfl
                             refine pure_ (i := 23) (N := some 224) (v := ?_) (a' := ?_) #[true, true, true, true, true, true, true, true, true, true, true, true, true, true, true, true, true, true, true, true, true, true, true, true, false, false, false, false, false, false, false, false, false] rfl rfl (any_of HT_.out (by kernel_rfl)) (fun _ _ _ h => h) (Or.inl ⟨by rfl, ?_⟩) ?_ ?_
                             rotate_left
                             ·intro w'
                              go_simp
                              with_reducible rfl
                             rotate_left
                             ·simp only [Act.put, List.setIfInBounds_toArray, List.set_cons_zero, List.set_cons_succ, i64_w, i32_w]
                              rfl
                             refine pure_ (i := 24) (N := some 225) (v := ?_) (a' := ?_) #[true, true, true, true, true, true, true, true, true, true, true, true, true, true, true, true, true, true, true, true, true, true, true, true, true, false, false, false, false, false, false, false, false] rfl rfl (any_of HT_.out (by kernel_rfl)) (fun _ _ _ h => h) (Or.inl ⟨by rfl, ?_⟩) ?_ ?_
                             rotate_left
                             ·intro w'
                              go_simp
                              with_reducible rfl
                             rotate_left
                             ·simp only [Act.put, List.setIfInBounds_toArray, List.set_cons_zero, List.set_cons_succ, i64_w, i32_w]
                              rfl
                             refine pure_ (i := 26) (N := some 227) (v := ?_) (a' := ?_) #[true, true, true, true, true, true, true, true, true, true, true, true, true, true, true, true, true, true, true, true, true, true, true, true, true, false, true, false, false, false, false, false, false] rfl rfl (any_of HT_.out (by kernel_rfl)) (fun _ _ _ h => h) (Or.inl ⟨by rfl, ?_⟩) ?_ ?_
                             rotate_left
                             ·intro w'
                              go_simp
                              with_reducible rfl
                             rotate_left
                             ·simp only [Act.put, List.setIfInBounds_toArray, List.set_cons_zero, List.set_cons_succ, i64_w, i32_w]
                              rfl
                             refine pure_ (i := 27) (N := some 228) (v := ?_) (a' := ?_) #[true, true, true, true, true, true, true, true, true, true, true, true, true, true, true, true, true, true, true, true, true, true, true, true, true, false, true, true, false, false, false, false, false] rfl rfl (any_of HT_.out (by kernel_rfl)) (fun _ _ _ h => h) (Or.inl ⟨by rfl, ?_⟩) ?_ ?_
                             rotate_left
                             ·intro w'
                              go_simp
                              with_reducible rfl
                             rotate_left
                             ·simp only [Act.put, List.setIfInBounds_toArray, List.set_cons_zero, List.set_cons_succ, i64_w, i32_w]
                              rfl
                             refine take_ (i := 25) (N := some 226) (v := ?_) (a' := ?_) #[true, true, true, true, true, true, true, true, true, true, true, true, true, true, true, true, true, true, true, true, true, true, true, true, true, true, true, true, false, false, false, false, false] rfl rfl (take_ofW HT_.out HW_.out (by kernel_rfl)) (fun _ _ _ h => h) (Or.inl ⟨by rfl, ?_⟩) hHeld ?_ ?_
                             rotate_left
                             ·rintro w' ⟨s0, s1, s2, s3⟩
                              go_simp
                              with_reducible rfl
                             rotate_left
                             ·simp only [Act.put, List.setIfInBounds_toArray, List.set_cons_zero, List.set_cons_succ, i64_w, i32_w]
                              rfl
                             refine take_ (i := 28) (N := some 229) (v := ?_) (a' := ?_) #[true, true, true, true, true, true, true, true, true, true, true, true, true, true, true, true, true, true, true, true, true, true, true, true, true, true, true, true, true, false, false, false, false] rfl rfl (take_ofW HT_.out HW_.out (by kernel_rfl)) (fun _ _ _ h => h) (Or.inl ⟨by rfl, ?_⟩) hHeld ?_ ?_
                             rotate_left
                             ·rintro w' ⟨s0, s1, s2, s3⟩
                              go_simp
                              with_reducible rfl
                             rotate_left
                             ·simp only [Act.put, List.setIfInBounds_toArray, List.set_cons_zero, List.set_cons_succ, i64_w, i32_w]
                              rfl
                             refine one_ (i := 29) (N := some 230) #[true, true, true, true, true, true, true, true, true, true, true, true, true, true, true, true, true, true, true, true, true, true, true, true, true, true, true, true, true, true, false, false, false] rfl rfl (one_of HT_.out (by kernel_rfl)) (by decide) (fun K hK => ?_)
                             refine goes_ Try.func37 (by kernel_rfl) rfl #[.int .i64 (rd t468 x183_2), .int .i64 t439] (by rfl) rfl rfl (by (try simp only [List.map_toArray, List.map_cons, List.map_nil]); first | done | rfl | (simp only [List.length_drop, List.length_take]; rfl)) ?_
                             with_reducible refine (laws_iWrap.calls (rd t468 x183_2) t439 t486 _ A66.out).mono ?_
                             rintro e w' ⟨rfl, ⟨nd, rfl⟩⟩
                             refine ⟨_, rfl, ?_⟩
                             refine hK.out _ _ ⟨(blk_cell BK449.out 0).trans rfl, (blk_cell BK449.out 1).trans rfl, hHeld.2.2.1, hHeld.2.2.2⟩ (fun hHeld => ?_)
                             clear hK K
                             refine norm_ (a' := ?_) ?_ ?_
                             rotate_left
                             ·show Act.put _ (some 230) _ = _
                              simp only [Act.put, List.setIfInBounds_toArray, List.set_cons_zero, List.set_cons_succ, i64_w, i32_w]
                              rfl
                             refine pure_ (i := 30) (N := some 231) (v := ?_) (a' := ?_) #[true, true, true, true, true, true, true, true, true, true, true, true, true, true, true, true, true, true, true, true, true, true, true, true, true, true, true, true, true, true, true, false, false] rfl rfl (any_of HT_.out (by kernel_rfl)) (fun _ _ _ h => h) (Or.inl ⟨by rfl, ?_⟩) ?_ ?_
                             rotate_left
                             ·intro w'
                              go_simp
                              with_reducible rfl
                             rotate_left
                             ·simp only [Act.put, List.setIfInBounds_toArray, List.set_cons_zero, List.set_cons_succ, i64_w, i32_w]
                              rfl
                             refine pure_ (i := 31) (N := some 232) (v := ?_) (a' := ?_) #[true, true, true, true, true, true, true, true, true, true, true, true, true, true, true, true, true, true, true, true, true, true, true, true, true, true, true, true, true, true, true, true, false] rfl rfl (any_of HT_.out (by kernel_rfl)) (fun _ _ _ h => h) (Or.inl ⟨by rfl, ?_⟩) ?_ ?_
                             rotate_left
                             ·intro w'
                              go_simp
                              with_reducible rfl
                             rotate_left
                             ·simp only [Act.put, List.setIfInBounds_toArray, List.set_cons_zero, List.set_cons_succ, i64_w, i32_w]
                              rfl
                             refine pure_ (i := 32) (N := some 233) (v := ?_) (a' := ?_) #[true, true, true, true, true, true, true, true, true, true, true, true, true, true, true, true, true, true, true, true, true, true, true, true, true, true, true, true, true, true, true, true, true] rfl rfl (any_of HT_.out (by kernel_rfl)) (fun _ _ _ h => h) (Or.inl ⟨by rfl, ?_⟩) ?_ ?_
                             rotate_left
                             ·intro w'
                              go_simp
                              with_reducible rfl
                             rotate_left
                             ·simp only [Act.put, List.setIfInBounds_toArray, List.set_cons_zero, List.set_cons_succ, i64_w, i32_w]
                              rfl
                             refine done_ (done_of HT_.out (by kernel_rfl)) ?_
                             try go_wp2
                             refine handF k2 ?measure_z71 hL_l1 (by kernel_rfl) (by kernel_rfl) ?rel_z71
                             case measure_z71 => have := HK1.out; have := HK2.out; omega
                             case rel_z71 => (try simp only [List.getD_cons_succ, List.getD_cons_zero]); exact ⟨(wrap64 (x183_2 + 1)), (by first | rfl | (simp; done) | (simp [*]; done)), H', ⟨by have := HK1.out; have := HK2.out; omega⟩, ⟨by (with_reducible repeat (first | apply Kd.R_alloc | apply Kd.R_drewN | apply Kd.R_drew)); exact HO_6.out⟩, ⟨by (with_reducible repeat (first | apply Kd.R_alloc | apply Kd.R_drewN | apply Kd.R_drew)); exact HO_10.out⟩, ⟨by (with_reducible repeat (first | apply Kd.R_alloc | apply Kd.R_drewN | apply Kd.R_drew)); exact HO_14.out⟩, ⟨by (with_reducible repeat (first | apply Kd.R_alloc | apply Kd.R_drewN | apply Kd.R_drew)); exact HO_18.out⟩, ⟨by (with_reducible repeat (first | apply Kd.R_alloc | apply Kd.R_drewN | apply Kd.R_drew)); exact HO_181.out⟩, ⟨by (with_reducible repeat (first | refine blk_drewN ?_ _ | refine blk_drew ?_ | refine blk_alloc ?_ _)); exact BK449.out⟩, ⟨by repeat (first | (with_reducible first | exact HB.out | apply below_alloc | apply pw_below_drewN | apply below_drew1 | refine below_set ?_ GE449.out) | exact HB.out)⟩⟩
                            ·rw [if_neg c67] at H
                             have c67b0 : ((rd t450 x183_2) == t486) = false := beq_eq_false_iff_ne.mpr c67
                             have c67b1 : ((rd t450 x183_2) != t486) = true := bne_iff_ne.mpr c67
                             obtain rfl := Option.some.inj H
                             exact absurd HT.out (by simp)
                           ·rw [if_neg c65] at H
                            exact absurd H (by simp)
                          ·replace c64 := Bool.eq_false_iff.mpr c64
                           subst c64
                           have H1 : (laws_FnFiltersInWords.l1 k2 l1 t441 t447 t448 t450 t458 t468 t468 (t468.length : Int) (wrap64 (x183_2 + 1)) t439 false) = some r := by rw [if_neg (show ¬ (false = true) by decide)] at H; exact H
                           clear H
                           have H := H1
                           clear H1
                           have H' := Aside0.mk H
                           clear H
                           have p479 : 0 ≤ (x183_2 : Int) := of_decide_eq_true (by first | (with_reducible assumption) | assumption)
                           have q479 : x183_2 < (t468.length : Int) := of_decide_eq_true (by first | (with_reducible assumption) | assumption)
                           obtain ⟨ad479, e479, hx479_0⟩ := Kd.at_int (Kd.R_reads' HO_181.out).2.2 x183_2 p479 q479
                           cases e479
                           replace p479 := eq_true p479
                           replace q479 := eq_true q479
                           try go_wp2_with (first | ((with_reducible refine gate_callee (f := 35) rfl ?_); refine goesL_ (some 192) rfl rfl Try.func35 (by kernel_rfl) rfl #[.int .i64 (rd t468 x183_2), .int .i64 t447, .int .i64 t448] rfl (by (try simp only [List.map_toArray, List.map_cons, List.map_nil]); first | done | rfl | (simp only [List.length_drop, List.length_take]; rfl)) ?_; (with_reducible refine (impl_RoundShift.calls k2 (rd t468 x183_2) t447 t448 t480 true _ A57.out).mono ?_); rintro e w' ⟨rfl, ⟨nd, rfl⟩⟩; refine ⟨_, rfl, ?_⟩; have hcz72_0 : wr.cell? ⟨gb449, 0, none⟩ = some (.int .i64 t439) := (blk_cell BK449.out 0).trans rfl; have hcz72_1 : wr.cell? ⟨gb449, 1, none⟩ = some (.bool false) := (blk_cell BK449.out 1).trans rfl; have hfz72_0 := blk_frozen BK449.out 0; have hfz72_1 := blk_frozen BK449.out 1) | ((with_reducible refine gate_callee (f := 36) rfl ?_); refine goesL_ (some 198) rfl rfl Try.func36 (by kernel_rfl) rfl #[.agg #[.int .i64 t439, .bool false], .int .i64 t480] rfl (by (try simp only [List.map_toArray, List.map_cons, List.map_nil]); first | done | rfl | (simp only [List.length_drop, List.length_take]; rfl)) ?_; (with_reducible refine (impl_FitNumber.calls t439 false t480 t482 true _ A58.out).mono ?_); rintro e w73 ⟨rfl, hb⟩; refine ⟨_, rfl, ?_⟩; have n0_ := Aside0.mk (Kd.R_below (by (with_reducible repeat (first | apply Kd.R_alloc | apply Kd.R_drewN | apply Kd.R_drew)); exact HO_6.out) hb); have n1_ := Aside0.mk (Kd.R_below (by (with_reducible repeat (first | apply Kd.R_alloc | apply Kd.R_drewN | apply Kd.R_drew)); exact HO_10.out) hb); have n2_ := Aside0.mk (Kd.R_below (by (with_reducible repeat (first | apply Kd.R_alloc | apply Kd.R_drewN | apply Kd.R_drew)); exact HO_14.out) hb); have n3_ := Aside0.mk (Kd.R_below (by (with_reducible repeat (first | apply Kd.R_alloc | apply Kd.R_drewN | apply Kd.R_drew)); exact HO_18.out) hb); have n4_ := Aside0.mk (Kd.R_below (by (with_reducible repeat (first | apply Kd.R_alloc | apply Kd.R_drewN | apply Kd.R_drew)); exact HO_181.out) hb); have n5_ := Aside0.mk (blk_below (g := gb449) (o := .cells #[.int .i64 t439, .bool false] 44 (0, 0)) (by (with_reducible repeat (first | refine blk_drewN ?_ _ | refine blk_drew ?_ | refine blk_alloc ?_ _)); exact BK449.out) hb); have n6_ := Aside0.mk (below_step (by repeat (first | (with_reducible first | exact HB.out | apply below_alloc | apply pw_below_drewN | apply below_drew1 | refine below_set ?_ GE449.out) | exact HB.out)) hb); clear HO_6; clear HO_10; clear HO_14; clear HO_18; clear HO_181; clear BK449; clear HB; have HO_6 := n0_; have HO_10 := n1_; have HO_14 := n2_; have HO_18 := n3_; have HO_181 := n4_; have BK449 := n5_; have HB := n6_; clear n0_ n1_ n2_ n3_ n4_ n5_ n6_; (try clear hb); (try clear hb2); (try clear hk); (try clear hi)))
                           have n0_ := Aside0.mk (Kd.R_drew HO_6.out)
                           have n1_ := Aside0.mk (Kd.R_drew HO_10.out)
                           have n2_ := Aside0.mk (Kd.R_drew HO_14.out)
                           have n3_ := Aside0.mk (Kd.R_drew HO_18.out)
                           have n4_ := Aside0.mk (Kd.R_drew HO_181.out)
                           have n5_ := Aside0.mk (blk_drew BK449.out)
                           have n6_ := Aside0.mk (below_drew1 HB.out)
                           clear HO_6
                           clear HO_10
                           clear HO_14
                           clear HO_18
                           clear HO_181
                           clear BK449
                           clear HB
                           have HO_6 := n0_
                           have HO_10 := n1_
                           have HO_14 := n2_
                           have HO_18 := n3_
                           have HO_181 := n4_
                           have BK449 := n5_
                           have HB := n6_
                           clear n0_ n1_ n2_ n3_ n4_ n5_ n6_
                           have p484 : 0 ≤ (x183_2 : Int) := of_decide_eq_true (by first | (with_reducible assumption) | assumption)
                           have q484 : x183_2 < (t458.length : Int) := of_decide_eq_true (by first | (with_reducible assumption) | assumption)
                           obtain ⟨ad484, e484, hx484_0⟩ := Kd.at_int (Kd.R_reads' HO_14.out).2.2 x183_2 p484 q484
                           cases e484
                           replace p484 := eq_true p484
                           replace q484 := eq_true q484
                           refine start_ (n := 33) (S := fun w' => w'.cell? ⟨gb449, 0, none⟩ = some (.int .i64 t439) ∧ w'.cell? ⟨gb449, 1, none⟩ = some (.bool false) ∧ w'.cell? (ad484.add (x183_2).toNat) = some (.int .i64 (rd t458 x183_2))) (ds := []) #[false, false, false, false, false, false, false, false, false, false, false, false, false, false, false, false, false, false, false, false, false, false, false, false, false, false, false, false, false, false, false, false, false] (by kernel_rfl) rfl rfl ⟨(blk_cell BK449.out 0).trans rfl, (blk_cell BK449.out 1).trans rfl, hx484_0⟩ (fun hHeld => ?_); refine with_tabW laws_FnFiltersInWords.tab27 laws_FnFiltersInWords.bits27 (fun HT_ HW_ => ?_)
                           generalize w73.drew = w74 at HO_6 HO_10 HO_14 HO_18 HO_181 BK449 HB hx484_0 hHeld ⊢
                           refine pure_ (i := 0) (N := some 201) (v := ?_) (a' := ?_) #[true, false, false, false, false, false, false, false, false, false, false, false, false, false, false, false, false, false, false, false, false, false, false, false, false, false, false, false, false, false, false, false, false] rfl rfl (any_of HT_.out (by kernel_rfl)) (fun _ _ _ h => h) (Or.inl ⟨by rfl, ?_⟩) ?_ ?_
                           rotate_left
                           ·intro w'
                            go_simp
                            with_reducible rfl
                           rotate_left
                           ·simp only [Act.put, List.setIfInBounds_toArray, List.set_cons_zero, List.set_cons_succ, i64_w, i32_w]
                            rfl
                           refine pure_ (i := 1) (N := some 202) (v := ?_) (a' := ?_) #[true, true, false, false, false, false, false, false, false, false, false, false, false, false, false, false, false, false, false, false, false, false, false, false, false, false, false, false, false, false, false, false, false] rfl rfl (any_of HT_.out (by kernel_rfl)) (fun _ _ _ h => h) (Or.inl ⟨by rfl, ?_⟩) ?_ ?_
                           rotate_left
                           ·intro w'
                            go_simp
                            with_reducible rfl
                           rotate_left
                           ·simp only [Act.put, List.setIfInBounds_toArray, List.set_cons_zero, List.set_cons_succ, i64_w, i32_w]
                            rfl
                           refine pure_ (i := 2) (N := some 203) (v := ?_) (a' := ?_) #[true, true, true, false, false, false, false, false, false, false, false, false, false, false, false, false, false, false, false, false, false, false, false, false, false, false, false, false, false, false, false, false, false] rfl rfl (any_of HT_.out (by kernel_rfl)) (fun _ _ _ h => h) (Or.inl ⟨by rfl, ?_⟩) ?_ ?_
                           rotate_left
                           ·intro w'
                            go_simp
                            with_reducible rfl
                           rotate_left
                           ·simp only [Act.put, List.setIfInBounds_toArray, List.set_cons_zero, List.set_cons_succ, i64_w, i32_w]
                            rfl
                           refine pure_ (i := 3) (N := some 204) (v := ?_) (a' := ?_) #[true, true, true, true, false, false, false, false, false, false, false, false, false, false, false, false, false, false, false, false, false, false, false, false, false, false, false, false, false, false, false, false, false] rfl rfl (any_of HT_.out (by kernel_rfl)) (fun _ _ _ h => h) (Or.inl ⟨by rfl, ?_⟩) ?_ ?_
                           rotate_left
                           ·intro w'
                            go_simp
                            with_reducible rfl
                           rotate_left
                           ·simp only [Act.put, List.setIfInBounds_toArray, List.set_cons_zero, List.set_cons_succ, i64_w, i32_w]
                            rfl
                           refine pure_ (i := 4) (N := some 205) (v := ?_) (a' := ?_) #[true, true, true, true, true, false, false, false, false, false, false, false, false, false, false, false, false, false, false, false, false, false, false, false, false, false, false, false, false, false, false, false, false] rfl rfl (any_of HT_.out (by kernel_rfl)) (fun _ _ _ h => h) (Or.inl ⟨by rfl, ?_⟩) ?_ ?_
                           rotate_left
                           ·intro w'
                            go_simp
                            with_reducible rfl
                           rotate_left
                           ·simp only [Act.put, List.setIfInBounds_toArray, List.set_cons_zero, List.set_cons_succ, i64_w, i32_w]
                            rfl
                           refine pure_ (i := 5) (N := some 206) (v := ?_) (a' := ?_) #[true, true, true, true, true, true, false, false, false, false, false, false, false, false, false, false, false, false, false, false, false, false, false, false, false, false, false, false, false, false, false, false, false] rfl rfl (any_of HT_.out (by kernel_rfl)) (fun _ _ _ h => h) (Or.inl ⟨by rfl, ?_⟩) ?_ ?_
                           rotate_left
                           ·intro w'
                            go_simp
                            with_reducible rfl
                           rotate_left
                           ·simp only [Act.put, List.setIfInBounds_toArray, List.set_cons_zero, List.set_cons_succ, i64_w, i32_w]
                            rfl
                           refine pure_ (i := 6) (N := some 207) (v := ?_) (a' := ?_) #[true, true, true, true, true, true, true, false, false, false, false, false, false, false, false, false, false, false, false, false, false, false, false, false, false, false, false, false, false, false, false, false, false] rfl rfl (any_of HT_.out (by kernel_rfl)) (fun _ _ _ h => h) (Or.inl ⟨by rfl, ?_⟩) ?_ ?_
                           rotate_left
                           ·intro w'
                            go_simp
                            with_reducible rfl
                           rotate_left
                           ·simp only [Act.put, List.setIfInBounds_toArray, List.set_cons_zero, List.set_cons_succ, i64_w, i32_w]
                            rfl
                           refine pure_ (i := 7) (N := some 208) (v := ?_) (a' := ?_) #[true, true, true, true, true, true, true, true, false, false, false, false, false, false, false, false, false, false, false, false, false, false, false, false, false, false, false, false, false, false, false, false, false] rfl rfl (any_of HT_.out (by kernel_rfl)) (fun _ _ _ h => h) (Or.inl ⟨by rfl, ?_⟩) ?_ ?_
                           rotate_left
                           ·intro w'
                            go_simp
                            with_reducible rfl
                           rotate_left
                           ·simp only [Act.put, List.setIfInBounds_toArray, List.set_cons_zero, List.set_cons_succ, i64_w, i32_w]
                            rfl
                           refine pure_ (i := 8) (N := some 209) (v := ?_) (a' := ?_) #[true, true, true, true, true, true, true, true, true, false, false, false, false, false, false, false, false, false, false, false, false, false, false, false, false, false, false, false, false, false, false, false, false] rfl rfl (any_of HT_.out (by kernel_rfl)) (fun _ _ _ h => h) (Or.inl ⟨by rfl, ?_⟩) ?_ ?_
                           rotate_left
                           ·intro w'
                            go_simp
                            with_reducible rfl
                           rotate_left
                           ·simp only [Act.put, List.setIfInBounds_toArray, List.set_cons_zero, List.set_cons_succ, i64_w, i32_w]
                            rfl
                           refine pure_ (i := 9) (N := some 210) (v := ?_) (a' := ?_) #[true, true, true, true, true, true, true, true, true, true, false, false, false, false, false, false, false, false, false, false, false, false, false, false, false, false, false, false, false, false, false, false, false] rfl rfl (any_of HT_.out (by kernel_rfl)) (fun _ _ _ h => h) (Or.inl ⟨by rfl, ?_⟩) ?_ ?_
                           rotate_left
                           ·intro w'
                            go_simp
                            with_reducible rfl
                           rotate_left
                           ·simp only [Act.put, List.setIfInBounds_toArray, List.set_cons_zero, List.set_cons_succ, i64_w, i32_w]
                            rfl
                           refine pure_ (i := 11) (N := some 212) (v := ?_) (a' := ?_) #[true, true, true, true, true, true, true, true, true, true, false, true, false, false, false, false, false, false, false, false, false, false, false, false, false, false, false, false, false, false, false, false, false] rfl rfl (any_of HT_.out (by kernel_rfl)) (fun _ _ _ h => h) (Or.inl ⟨by rfl, ?_⟩) ?_ ?_
                           rotate_left
                           ·intro w'
                            go_simp
                            with_reducible rfl
                           rotate_left
                           ·simp only [Act.put, List.setIfInBounds_toArray, List.set_cons_zero, List.set_cons_succ, i64_w, i32_w]
                            rfl
                           refine take_ (i := 10) (N := some 211) (v := ?_) (a' := ?_) #[true, true, true, true, true, true, true, true, true, true, true, true, false, false, false, false, false, false, false, false, false, false, false, false, false, false, false, false, false, false, false, false, false] rfl rfl (take_ofW HT_.out HW_.out (by kernel_rfl)) (fun _ _ _ h => h) (Or.inl ⟨by rfl, ?_⟩) hHeld ?_ ?_
                           rotate_left
                           ·rintro w' ⟨s0, s1, s2⟩
                            go_simp
                            with_reducible rfl
                           rotate_left
                           ·simp only [Act.put, List.setIfInBounds_toArray, List.set_cons_zero, List.set_cons_succ, i64_w, i32_w]
                            rfl
                           refine pure_ (i := 12) (N := some 213) (v := ?_) (a' := ?_) #[true, true, true, true, true, true, true, true, true, true, true, true, true, false, false, false, false, false, false, false, false, false, false, false, false, false, false, false, false, false, false, false, false] rfl rfl (any_of HT_.out (by kernel_rfl)) (fun _ _ _ h => h) (Or.inl ⟨by rfl, ?_⟩) ?_ ?_
                           rotate_left
                           ·intro w'
                            go_simp
                            with_reducible rfl
                           rotate_left
                           ·simp only [Act.put, List.setIfInBounds_toArray, List.set_cons_zero, List.set_cons_succ, i64_w, i32_w]
                            rfl
                           refine pure_ (i := 13) (N := some 214) (v := ?_) (a' := ?_) #[true, true, true, true, true, true, true, true, true, true, true, true, true, true, false, false, false, false, false, false, false, false, false, false, false, false, false, false, false, false, false, false, false] rfl rfl (any_of HT_.out (by kernel_rfl)) (fun _ _ _ h => h) (Or.inl ⟨by rfl, ?_⟩) ?_ ?_
                           rotate_left
                           ·intro w'
                            go_simp
                            with_reducible rfl
                           rotate_left
                           ·simp only [Act.put, List.setIfInBounds_toArray, List.set_cons_zero, List.set_cons_succ, i64_w, i32_w]
                            rfl
                           refine pure_ (i := 14) (N := some 215) (v := ?_) (a' := ?_) #[true, true, true, true, true, true, true, true, true, true, true, true, true, true, true, false, false, false, false, false, false, false, false, false, false, false, false, false, false, false, false, false, false] rfl rfl (any_of HT_.out (by kernel_rfl)) (fun _ _ _ h => h) (Or.inl ⟨by rfl, ?_⟩) ?_ ?_
                           rotate_left
                           ·intro w'
                            go_simp
                            with_reducible rfl
                           rotate_left
                           ·simp only [Act.put, List.setIfInBounds_toArray, List.set_cons_zero, List.set_cons_succ, i64_w, i32_w]
                            rfl
                           refine pure_ (i := 15) (N := some 216) (v := ?_) (a' := ?_) #[true, true, true, true, true, true, true, true, true, true, true, true, true, true, true, true, false, false, false, false, false, false, false, false, false, false, false, false, false, false, false, false, false] rfl rfl (any_of HT_.out (by kernel_rfl)) (fun _ _ _ h => h) (Or.inl ⟨by rfl, ?_⟩) ?_ ?_
                           rotate_left
                           ·intro w'
                            go_simp
                            with_reducible rfl
                           rotate_left
                           ·simp only [Act.put, List.setIfInBounds_toArray, List.set_cons_zero, List.set_cons_succ, i64_w, i32_w]
                            rfl
                           refine pure_ (i := 16) (N := some 217) (v := ?_) (a' := ?_) #[true, true, true, true, true, true, true, true, true, true, true, true, true, true, true, true, true, false, false, false, false, false, false, false, false, false, false, false, false, false, false, false, false] rfl rfl (any_of HT_.out (by kernel_rfl)) (fun _ _ _ h => h) (Or.inl ⟨by rfl, ?_⟩) ?_ ?_
                           rotate_left
                           ·intro w'
                            go_simp
                            with_reducible rfl
                           rotate_left
                           ·simp only [Act.put, List.setIfInBounds_toArray, List.set_cons_zero, List.set_cons_succ, i64_w, i32_w]
                            rfl
                           refine pure_ (i := 17) (N := some 218) (v := ?_) (a' := ?_) #[true, true, true, true, true, true, true, true, true, true, true, true, true, true, true, true, true, true, false, false, false, false, false, false, false, false, false, false, false, false, false, false, false] rfl rfl (any_of HT_.out (by kernel_rfl)) (fun _ _ _ h => h) (Or.inl ⟨by rfl, ?_⟩) ?_ ?_
                           rotate_left
                           ·intro w'
                            go_simp
                            with_reducible rfl
                           rotate_left
                           ·simp only [Act.put, List.setIfInBounds_toArray, List.set_cons_zero, List.set_cons_succ, i64_w, i32_w]
                            rfl
                           refine pure_ (i := 18) (N := some 219) (v := ?_) (a' := ?_) #[true, true, true, true, true, true, true, true, true, true, true, true, true, true, true, true, true, true, true, false, false, false, false, false, false, false, false, false, false, false, false, false, false] rfl rfl (any_of HT_.out (by kernel_rfl)) (fun _ _ _ h => h) (Or.inl ⟨by rfl, ?_⟩) ?_ ?_
                           rotate_left
                           ·intro w'
                            go_simp
                            with_reducible rfl
                           rotate_left
                           ·simp only [Act.put, List.setIfInBounds_toArray, List.set_cons_zero, List.set_cons_succ, i64_w, i32_w]
                            rfl
                           refine take_ (i := 19) (N := some 220) (v := ?_) (a' := ?_) #[true, true, true, true, true, true, true, true, true, true, true, true, true, true, true, true, true, true, true, true, false, false, false, false, false, false, false, false, false, false, false, false, false] rfl rfl (take_ofW HT_.out HW_.out (by kernel_rfl)) (fun _ _ _ h => h) (Or.inl ⟨by rfl, ?_⟩) hHeld ?_ ?_
                           rotate_left
                           ·rintro w' ⟨s0, s1, s2⟩
                            go_simp
                            with_reducible rfl
                           rotate_left
                           ·simp only [Act.put, List.setIfInBounds_toArray, List.set_cons_zero, List.set_cons_succ, i64_w, i32_w]
                            rfl
                           refine pure_ (i := 20) (N := some 221) (v := ?_) (a' := ?_) #[true, true, true, true, true, true, true, true, true, true, true, true, true, true, true, true, true, true, true, true, true, false, false, false, false, false, false, false, false, false, false, false, false] rfl rfl (any_of HT_.out (by kernel_rfl)) (fun _ _ _ h => h) (Or.inl ⟨by rfl, ?_⟩) ?_ ?_
                           rotate_left
                           ·intro w'
                            go_simp
                            with_reducible rfl
                           rotate_left
                           ·simp only [Act.put, List.setIfInBounds_toArray, List.set_cons_zero, List.set_cons_succ, i64_w, i32_w]
                            rfl
                           refine pure_ (i := 21) (N := some 222) (v := ?_) (a' := ?_) #[true, true, true, true, true, true, true, true, true, true, true, true, true, true, true, true, true, true, true, true, true, true, false, false, false, false, false, false, false, false, false, false, false] rfl rfl (any_of HT_.out (by kernel_rfl)) (fun _ _ _ h => h) (Or.inl ⟨by rfl, ?_⟩) ?_ ?_
                           rotate_left
                           ·intro w'
                            go_simp
                            with_reducible rfl
                           rotate_left
                           ·simp only [Act.put, List.setIfInBounds_toArray, List.set_cons_zero, List.set_cons_succ, i64_w, i32_w]
                            rfl
                           refine pure_ (i := 22) (N := some 223) (v := undef) (a' := ?_) #[true, true, true, true, true, true, true, true, true, true, true, true, true, true, true, true, true, true, true, true, true, true, true, false, false, false, false, false, false, false, false, false, false] rfl rfl (any_of HT_.out (by kernel_rfl)) (fun _ _ _ h => h) (Or.inr ⟨by rfl, rfl⟩) ?_ ?_
                           rotate_left
                           ·simp only [Act.put, List.setIfInBounds_toArray, List.set_cons_zero, List.set_cons_succ, i64_w, i32_w]
                            rfl
                           refine pure_ (i := 23) (N := some 224) (v := undef) (a' := ?_) #[true, true, true, true, true, true, true, true, true, true, true, true, true, true, true, true, true, true, true, true, true, true, true, true, false, false, false, false, false, false, false, false, false] rfl rfl (any_of HT_.out (by kernel_rfl)) (fun _ _ _ h => h) (Or.inr ⟨by rfl, rfl⟩) ?_ ?_
                           rotate_left
                           ·simp only [Act.put, List.setIfInBounds_toArray, List.set_cons_zero, List.set_cons_succ, i64_w, i32_w]
                            rfl
                           refine pure_ (i := 24) (N := some 225) (v := undef) (a' := ?_) #[true, true, true, true, true, true, true, true, true, true, true, true, true, true, true, true, true, true, true, true, true, true, true, true, true, false, false, false, false, false, false, false, false] rfl rfl (any_of HT_.out (by kernel_rfl)) (fun _ _ _ h => h) (Or.inr ⟨by rfl, rfl⟩) ?_ ?_
                           rotate_left
                           ·simp only [Act.put, List.setIfInBounds_toArray, List.set_cons_zero, List.set_cons_succ, i64_w, i32_w]
                            rfl
                           refine pure_ (i := 25) (N := some 226) (v := undef) (a' := ?_) #[true, true, true, true, true, true, true, true, true, true, true, true, true, true, true, true, true, true, true, true, true, true, true, true, true, true, false, false, false, false, false, false, false] rfl rfl (any_of HT_.out (by kernel_rfl)) (fun _ _ _ h => h) (Or.inr ⟨by rfl, rfl⟩) ?_ ?_
                           rotate_left
                           ·simp only [Act.put, List.setIfInBounds_toArray, List.set_cons_zero, List.set_cons_succ, i64_w, i32_w]
                            rfl
                           refine pure_ (i := 26) (N := some 227) (v := undef) (a' := ?_) #[true, true, true, true, true, true, true, true, true, true, true, true, true, true, true, true, true, true, true, true, true, true, true, true, true, true, true, false, false, false, false, false, false] rfl rfl (any_of HT_.out (by kernel_rfl)) (fun _ _ _ h => h) (Or.inr ⟨by rfl, rfl⟩) ?_ ?_
                           rotate_left
                           ·simp only [Act.put, List.setIfInBounds_toArray, List.set_cons_zero, List.set_cons_succ, i64_w, i32_w]
                            rfl
                           refine pure_ (i := 27) (N := some 228) (v := undef) (a' := ?_) #[true, true, true, true, true, true, true, true, true, true, true, true, true, true, true, true, true, true, true, true, true, true, true, true, true, true, true, true, false, false, false, false, false] rfl rfl (any_of HT_.out (by kernel_rfl)) (fun _ _ _ h => h) (Or.inr ⟨by rfl, rfl⟩) ?_ ?_
                           rotate_left
                           ·simp only [Act.put, List.setIfInBounds_toArray, List.set_cons_zero, List.set_cons_succ, i64_w, i32_w]
                            rfl
                           refine pure_ (i := 28) (N := some 229) (v := undef) (a' := ?_) #[true, true, true, true, true, true, true, true, true, true, true, true, true, true, true, true, true, true, true, true, true, true, true, true, true, true, true, true, true, false, false, false, false] rfl rfl (any_of HT_.out (by kernel_rfl)) (fun _ _ _ h => h) (Or.inr ⟨by rfl, rfl⟩) ?_ ?_
                           rotate_left
                           ·simp only [Act.put, List.setIfInBounds_toArray, List.set_cons_zero, List.set_cons_succ, i64_w, i32_w]
                            rfl
                           refine pure_ (i := 29) (N := some 230) (v := undef) (a' := ?_) #[true, true, true, true, true, true, true, true, true, true, true, true, true, true, true, true, true, true, true, true, true, true, true, true, true, true, true, true, true, true, false, false, false] rfl rfl (any_of HT_.out (by kernel_rfl)) (fun _ _ _ h => h) (Or.inr ⟨by rfl, rfl⟩) ?_ ?_
                           rotate_left
                           ·simp only [Act.put, List.setIfInBounds_toArray, List.set_cons_zero, List.set_cons_succ, i64_w, i32_w]
                            rfl
                           refine pure_ (i := 30) (N := some 231) (v := undef) (a' := ?_) #[true, true, true, true, true, true, true, true, true, true, true, true, true, true, true, true, true, true, true, true, true, true, true, true, true, true, true, true, true, true, true, false, false] rfl rfl (any_of HT_.out (by kernel_rfl)) (fun _ _ _ h => h) (Or.inr ⟨by rfl, rfl⟩) ?_ ?_
                           rotate_left
                           ·simp only [Act.put, List.setIfInBounds_toArray, List.set_cons_zero, List.set_cons_succ, i64_w, i32_w]
                            rfl
                           refine pure_ (i := 31) (N := some 232) (v := ?_) (a' := ?_) #[true, true, true, true, true, true, true, true, true, true, true, true, true, true, true, true, true, true, true, true, true, true, true, true, true, true, true, true, true, true, true, true, false] rfl rfl (any_of HT_.out (by kernel_rfl)) (fun _ _ _ h => h) (Or.inl ⟨by rfl, ?_⟩) ?_ ?_
                           rotate_left
                           ·intro w'
                            go_simp
                            with_reducible rfl
                           rotate_left
                           ·simp only [Act.put, List.setIfInBounds_toArray, List.set_cons_zero, List.set_cons_succ, i64_w, i32_w]
                            rfl
                           refine pure_ (i := 32) (N := some 233) (v := ?_) (a' := ?_) #[true, true, true, true, true, true, true, true, true, true, true, true, true, true, true, true, true, true, true, true, true, true, true, true, true, true, true, true, true, true, true, true, true] rfl rfl (any_of HT_.out (by kernel_rfl)) (fun _ _ _ h => h) (Or.inl ⟨by rfl, ?_⟩) ?_ ?_
                           rotate_left
                           ·intro w'
                            go_simp
                            with_reducible rfl
                           rotate_left
                           ·simp only [Act.put, List.setIfInBounds_toArray, List.set_cons_zero, List.set_cons_succ, i64_w, i32_w]
                            rfl
                           refine done_ (done_of HT_.out (by kernel_rfl)) ?_
                           try go_wp2
                           refine handF k2 ?measure_z75 hL_l1 (by kernel_rfl) (by kernel_rfl) ?rel_z75
                           case measure_z75 => have := HK1.out; have := HK2.out; omega
                           case rel_z75 => (try simp only [List.getD_cons_succ, List.getD_cons_zero]); exact ⟨(wrap64 (x183_2 + 1)), (by first | rfl | (simp; done) | (simp [*]; done)), H', ⟨by have := HK1.out; have := HK2.out; omega⟩, ⟨by (with_reducible repeat (first | apply Kd.R_alloc | apply Kd.R_drewN | apply Kd.R_drew)); exact HO_6.out⟩, ⟨by (with_reducible repeat (first | apply Kd.R_alloc | apply Kd.R_drewN | apply Kd.R_drew)); exact HO_10.out⟩, ⟨by (with_reducible repeat (first | apply Kd.R_alloc | apply Kd.R_drewN | apply Kd.R_drew)); exact HO_14.out⟩, ⟨by (with_reducible repeat (first | apply Kd.R_alloc | apply Kd.R_drewN | apply Kd.R_drew)); exact HO_18.out⟩, ⟨by (with_reducible repeat (first | apply Kd.R_alloc | apply Kd.R_drewN | apply Kd.R_drew)); exact HO_181.out⟩, ⟨by (with_reducible repeat (first | refine blk_drewN ?_ _ | refine blk_drew ?_ | refine blk_alloc ?_ _)); exact BK449.out⟩, ⟨by repeat (first | (with_reducible first | exact HB.out | apply below_alloc | apply pw_below_drewN | apply below_drew1 | refine below_set ?_ GE449.out) | exact HB.out)⟩⟩
                         ·rw [if_neg c63] at H
                          have c63b0 : (t447 == 0) = false := beq_eq_false_iff_ne.mpr c63
                          have c63b1 : (t447 != 0) = true := bne_iff_ne.mpr c63
                          have H' := Aside0.mk H
                          clear H
                          have p479 : 0 ≤ (x183_2 : Int) := of_decide_eq_true (by first | (with_reducible assumption) | assumption)
                          have q479 : x183_2 < (t468.length : Int) := of_decide_eq_true (by first | (with_reducible assumption) | assumption)
                          obtain ⟨ad479, e479, hx479_0⟩ := Kd.at_int (Kd.R_reads' HO_181.out).2.2 x183_2 p479 q479
                          cases e479
                          replace p479 := eq_true p479
                          replace q479 := eq_true q479
                          try go_wp2_with (first | ((with_reducible refine gate_callee (f := 35) rfl ?_); refine goesL_ (some 192) rfl rfl Try.func35 (by kernel_rfl) rfl #[.int .i64 (rd t468 x183_2), .int .i64 t447, .int .i64 t448] rfl (by (try simp only [List.map_toArray, List.map_cons, List.map_nil]); first | done | rfl | (simp only [List.length_drop, List.length_take]; rfl)) ?_; (with_reducible refine (impl_RoundShift.calls k2 (rd t468 x183_2) t447 t448 t480 true _ A57.out).mono ?_); rintro e w' ⟨rfl, ⟨nd, rfl⟩⟩; refine ⟨_, rfl, ?_⟩; have hcz76_0 : wr.cell? ⟨gb449, 0, none⟩ = some (.int .i64 t439) := (blk_cell BK449.out 0).trans rfl; have hcz76_1 : wr.cell? ⟨gb449, 1, none⟩ = some (.bool t440) := (blk_cell BK449.out 1).trans rfl; have hfz76_0 := blk_frozen BK449.out 0; have hfz76_1 := blk_frozen BK449.out 1) | ((with_reducible refine gate_callee (f := 36) rfl ?_); refine goesL_ (some 198) rfl rfl Try.func36 (by kernel_rfl) rfl #[.agg #[.int .i64 t439, .bool t440], .int .i64 t480] rfl (by (try simp only [List.map_toArray, List.map_cons, List.map_nil]); first | done | rfl | (simp only [List.length_drop, List.length_take]; rfl)) ?_; (with_reducible refine (impl_FitNumber.calls t439 t440 t480 t482 true _ A58.out).mono ?_); rintro e w77 ⟨rfl, hb⟩; refine ⟨_, rfl, ?_⟩; have n0_ := Aside0.mk (Kd.R_below (by (with_reducible repeat (first | apply Kd.R_alloc | apply Kd.R_drewN | apply Kd.R_drew)); exact HO_6.out) hb); have n1_ := Aside0.mk (Kd.R_below (by (with_reducible repeat (first | apply Kd.R_alloc | apply Kd.R_drewN | apply Kd.R_drew)); exact HO_10.out) hb); have n2_ := Aside0.mk (Kd.R_below (by (with_reducible repeat (first | apply Kd.R_alloc | apply Kd.R_drewN | apply Kd.R_drew)); exact HO_14.out) hb); have n3_ := Aside0.mk (Kd.R_below (by (with_reducible repeat (first | apply Kd.R_alloc | apply Kd.R_drewN | apply Kd.R_drew)); exact HO_18.out) hb); have n4_ := Aside0.mk (Kd.R_below (by (with_reducible repeat (first | apply Kd.R_alloc | apply Kd.R_drewN | apply Kd.R_drew)); exact HO_181.out) hb); have n5_ := Aside0.mk (blk_below (g := gb449) (o := .cells #[.int .i64 t439, .bool t440] 44 (0, 0)) (by (with_reducible repeat (first | refine blk_drewN ?_ _ | refine blk_drew ?_ | refine blk_alloc ?_ _)); exact BK449.out) hb); have n6_ := Aside0.mk (below_step (by repeat (first | (with_reducible first | exact HB.out | apply below_alloc | apply pw_below_drewN | apply below_drew1 | refine below_set ?_ GE449.out) | exact HB.out)) hb); clear HO_6; clear HO_10; clear HO_14; clear HO_18; clear HO_181; clear BK449; clear HB; have HO_6 := n0_; have HO_10 := n1_; have HO_14 := n2_; have HO_18 := n3_; have HO_181 := n4_; have BK449 := n5_; have HB := n6_; clear n0_ n1_ n2_ n3_ n4_ n5_ n6_; (try clear hb); (try clear hb2); (try clear hk); (try clear hi)))
                          have n0_ := Aside0.mk (Kd.R_drew HO_6.out)
                          have n1_ := Aside0.mk (Kd.R_drew HO_10.out)
                          have n2_ := Aside0.mk (Kd.R_drew HO_14.out)
                          have n3_ := Aside0.mk (Kd.R_drew HO_18.out)
                          have n4_ := Aside0.mk (Kd.R_drew HO_181.out)
                          have n5_ := Aside0.mk (blk_drew BK449.out)
                          have n6_ := Aside0.mk (below_drew1 HB.out)
                          clear HO_6
                          clear HO_10
                          clear HO_14
                          clear HO_18
                          clear HO_181
                          clear BK449
                          clear HB
                          have HO_6 := n0_
                          have HO_10 := n1_
                          have HO_14 := n2_
                          have HO_18 := n3_
                          have HO_181 := n4_
                          have BK449 := n5_
                          have HB := n6_
                          clear n0_ n1_ n2_ n3_ n4_ n5_ n6_
                          have p484 : 0 ≤ (x183_2 : Int) := of_decide_eq_true (by first | (with_reducible assumption) | assumption)
                          have q484 : x183_2 < (t458.length : Int) := of_decide_eq_true (by first | (with_reducible assumption) | assumption)
                          obtain ⟨ad484, e484, hx484_0⟩ := Kd.at_int (Kd.R_reads' HO_14.out).2.2 x183_2 p484 q484
                          cases e484
                          replace p484 := eq_true p484
                          replace q484 := eq_true q484
                          refine start_ (n := 33) (S := fun w' => w'.cell? (ad484.add (x183_2).toNat) = some (.int .i64 (rd t458 x183_2))) (ds := []) #[false, false, false, false, false, false, false, false, false, false, false, false, false, false, false, false, false, false, false, false, false, false, false, false, false, false, false, false, false, false, false, false, false] (by kernel_rfl) rfl rfl (hx484_0) (fun hHeld => ?_); refine with_tabW laws_FnFiltersInWords.tab27 laws_FnFiltersInWords.bits27 (fun HT_ HW_ => ?_)
                          generalize w77.drew = w78 at HO_6 HO_10 HO_14 HO_18 HO_181 BK449 HB hx484_0 hHeld ⊢
                          refine pure_ (i := 0) (N := some 201) (v := ?_) (a' := ?_) #[true, false, false, false, false, false, false, false, false, false, false, false, false, false, false, false, false, false, false, false, false, false, false, false, false, false, false, false, false, false, false, false, false] rfl rfl (any_of HT_.out (by kernel_rfl)) (fun _ _ _ h => h) (Or.inl ⟨by rfl, ?_⟩) ?_ ?_
                          rotate_left
                          ·intro w'
                           go_simp
                           with_reducible rfl
                          rotate_left
                          ·simp only [Act.put, List.setIfInBounds_toArray, List.set_cons_zero, List.set_cons_succ, i64_w, i32_w]
                           rfl
                          refine pure_ (i := 1) (N := some 202) (v := ?_) (a' := ?_) #[true, true, false, false, false, false, false, false, false, false, false, false, false, false, false, false, false, false, false, false, false, false, false, false, false, false, false, false, false, false, false, false, false] rfl rfl (any_of HT_.out (by kernel_rfl)) (fun _ _ _ h => h) (Or.inl ⟨by rfl, ?_⟩) ?_ ?_
                          rotate_left
                          ·intro w'
                           go_simp
                           with_reducible rfl
                          rotate_left
                          ·simp only [Act.put, List.setIfInBounds_toArray, List.set_cons_zero, List.set_cons_succ, i64_w, i32_w]
                           rfl
                          refine pure_ (i := 2) (N := some 203) (v := ?_) (a' := ?_) #[true, true, true, false, false, false, false, false, false, false, false, false, false, false, false, false, false, false, false, false, false, false, false, false, false, false, false, false, false, false, false, false, false] rfl rfl (any_of HT_.out (by kernel_rfl)) (fun _ _ _ h => h) (Or.inl ⟨by rfl, ?_⟩) ?_ ?_
                          rotate_left
                          ·intro w'
                           go_simp
                           with_reducible rfl
                          rotate_left
                          ·simp only [Act.put, List.setIfInBounds_toArray, List.set_cons_zero, List.set_cons_succ, i64_w, i32_w]
                           rfl
                          refine pure_ (i := 3) (N := some 204) (v := ?_) (a' := ?_) #[true, true, true, true, false, false, false, false, false, false, false, false, false, false, false, false, false, false, false, false, false, false, false, false, false, false, false, false, false, false, false, false, false] rfl rfl (any_of HT_.out (by kernel_rfl)) (fun _ _ _ h => h) (Or.inl ⟨by rfl, ?_⟩) ?_ ?_
                          rotate_left
                          ·intro w'
                           go_simp
                           with_reducible rfl
                          rotate_left
                          ·simp only [Act.put, List.setIfInBounds_toArray, List.set_cons_zero, List.set_cons_succ, i64_w, i32_w]
                           rfl
                          refine pure_ (i := 4) (N := some 205) (v := ?_) (a' := ?_) #[true, true, true, true, true, false, false, false, false, false, false, false, false, false, false, false, false, false, false, false, false, false, false, false, false, false, false, false, false, false, false, false, false] rfl rfl (any_of HT_.out (by kernel_rfl)) (fun _ _ _ h => h) (Or.inl ⟨by rfl, ?_⟩) ?_ ?_
                          rotate_left
                          ·intro w'
                           go_simp
                           with_reducible rfl
                          rotate_left
                          ·simp only [Act.put, List.setIfInBounds_toArray, List.set_cons_zero, List.set_cons_succ, i64_w, i32_w]
                           rfl
                          refine pure_ (i := 5) (N := some 206) (v := ?_) (a' := ?_) #[true, true, true, true, true, true, false, false, false, false, false, false, false, false, false, false, false, false, false, false, false, false, false, false, false, false, false, false, false, false, false, false, false] rfl rfl (any_of HT_.out (by kernel_rfl)) (fun _ _ _ h => h) (Or.inl ⟨by rfl, ?_⟩) ?_ ?_
                          rotate_left
                          ·intro w'
                           go_simp
                           with_reducible rfl
                          rotate_left
                          ·simp only [Act.put, List.setIfInBounds_toArray, List.set_cons_zero, List.set_cons_succ, i64_w, i32_w]
                           rfl
                          refine pure_ (i := 6) (N := some 207) (v := ?_) (a' := ?_) #[true, true, true, true, true, true, true, false, false, false, false, false, false, false, false, false, false, false, false, false, false, false, false, false, false, false, false, false, false, false, false, false, false] rfl rfl (any_of HT_.out (by kernel_rfl)) (fun _ _ _ h => h) (Or.inl ⟨by rfl, ?_⟩) ?_ ?_
                          rotate_left
                          ·intro w'
                           go_simp
                           with_reducible rfl
                          rotate_left
                          ·simp only [Act.put, List.setIfInBounds_toArray, List.set_cons_zero, List.set_cons_succ, i64_w, i32_w]
                           rfl
                          refine pure_ (i := 7) (N := some 208) (v := ?_) (a' := ?_) #[true, true, true, true, true, true, true, true, false, false, false, false, false, false, false, false, false, false, false, false, false, false, false, false, false, false, false, false, false, false, false, false, false] rfl rfl (any_of HT_.out (by kernel_rfl)) (fun _ _ _ h => h) (Or.inl ⟨by rfl, ?_⟩) ?_ ?_
                          rotate_left
                          ·intro w'
                           go_simp
                           with_reducible rfl
                          rotate_left
                          ·simp only [Act.put, List.setIfInBounds_toArray, List.set_cons_zero, List.set_cons_succ, i64_w, i32_w]
                           rfl
                          refine pure_ (i := 8) (N := some 209) (v := ?_) (a' := ?_) #[true, true, true, true, true, true, true, true, true, false, false, false, false, false, false, false, false, false, false, false, false, false, false, false, false, false, false, false, false, false, false, false, false] rfl rfl (any_of HT_.out (by kernel_rfl)) (fun _ _ _ h => h) (Or.inl ⟨by rfl, ?_⟩) ?_ ?_
                          rotate_left
                          ·intro w'
                           go_simp
                           with_reducible rfl
                          rotate_left
                          ·simp only [Act.put, List.setIfInBounds_toArray, List.set_cons_zero, List.set_cons_succ, i64_w, i32_w]
                           rfl
                          refine pure_ (i := 9) (N := some 210) (v := ?_) (a' := ?_) #[true, true, true, true, true, true, true, true, true, true, false, false, false, false, false, false, false, false, false, false, false, false, false, false, false, false, false, false, false, false, false, false, false] rfl rfl (any_of HT_.out (by kernel_rfl)) (fun _ _ _ h => h) (Or.inl ⟨by rfl, ?_⟩) ?_ ?_
                          rotate_left
                          ·intro w'
                           go_simp
                           with_reducible rfl
                          rotate_left
                          ·simp only [Act.put, List.setIfInBounds_toArray, List.set_cons_zero, List.set_cons_succ, i64_w, i32_w]
                           rfl
                          refine pure_ (i := 11) (N := some 212) (v := ?_) (a' := ?_) #[true, true, true, true, true, true, true, true, true, true, false, true, false, false, false, false, false, false, false, false, false, false, false, false, false, false, false, false, false, false, false, false, false] rfl rfl (any_of HT_.out (by kernel_rfl)) (fun _ _ _ h => h) (Or.inl ⟨by rfl, ?_⟩) ?_ ?_
                          rotate_left
                          ·intro w'
                           go_simp
                           with_reducible rfl
                          rotate_left
                          ·simp only [Act.put, List.setIfInBounds_toArray, List.set_cons_zero, List.set_cons_succ, i64_w, i32_w]
                           rfl
                          refine take_ (i := 10) (N := some 211) (v := ?_) (a' := ?_) #[true, true, true, true, true, true, true, true, true, true, true, true, false, false, false, false, false, false, false, false, false, false, false, false, false, false, false, false, false, false, false, false, false] rfl rfl (take_ofW HT_.out HW_.out (by kernel_rfl)) (fun _ _ _ h => h) (Or.inl ⟨by rfl, ?_⟩) hHeld ?_ ?_
                          rotate_left
                          ·intro w' s0
                           go_simp
                           with_reducible rfl
                          rotate_left
                          ·simp only [Act.put, List.setIfInBounds_toArray, List.set_cons_zero, List.set_cons_succ, i64_w, i32_w]
                           rfl
                          refine pure_ (i := 12) (N := some 213) (v := ?_) (a' := ?_) #[true, true, true, true, true, true, true, true, true, true, true, true, true, false, false, false, false, false, false, false, false, false, false, false, false, false, false, false, false, false, false, false, false] rfl rfl (any_of HT_.out (by kernel_rfl)) (fun _ _ _ h => h) (Or.inl ⟨by rfl, ?_⟩) ?_ ?_
                          rotate_left
                          ·intro w'
                           go_simp
                           with_reducible rfl
                          rotate_left
                          ·simp only [Act.put, List.setIfInBounds_toArray, List.set_cons_zero, List.set_cons_succ, i64_w, i32_w]
                           rfl
                          refine pure_ (i := 13) (N := some 214) (v := ?_) (a' := ?_) #[true, true, true, true, true, true, true, true, true, true, true, true, true, true, false, false, false, false, false, false, false, false, false, false, false, false, false, false, false, false, false, false, false] rfl rfl (any_of HT_.out (by kernel_rfl)) (fun _ _ _ h => h) (Or.inl ⟨by rfl, ?_⟩) ?_ ?_
                          rotate_left
                          ·intro w'
                           go_simp
                           with_reducible rfl
                          rotate_left
                          ·simp only [Act.put, List.setIfInBounds_toArray, List.set_cons_zero, List.set_cons_succ, i64_w, i32_w]
                           rfl
                          refine pure_ (i := 14) (N := some 215) (v := ?_) (a' := ?_) #[true, true, true, true, true, true, true, true, true, true, true, true, true, true, true, false, false, false, false, false, false, false, false, false, false, false, false, false, false, false, false, false, false] rfl rfl (any_of HT_.out (by kernel_rfl)) (fun _ _ _ h => h) (Or.inl ⟨by rfl, ?_⟩) ?_ ?_
                          rotate_left
                          ·intro w'
                           go_simp
                           with_reducible rfl
                          rotate_left
                          ·simp only [Act.put, List.setIfInBounds_toArray, List.set_cons_zero, List.set_cons_succ, i64_w, i32_w]
                           rfl
                          refine pure_ (i := 15) (N := some 216) (v := ?_) (a' := ?_) #[true, true, true, true, true, true, true, true, true, true, true, true, true, true, true, true, false, false, false, false, false, false, false, false, false, false, false, false, false, false, false, false, false] rfl rfl (any_of HT_.out (by kernel_rfl)) (fun _ _ _ h => h) (Or.inl ⟨by rfl, ?_⟩) ?_ ?_
                          rotate_left
                          ·intro w'
                           go_simp
                           with_reducible rfl
                          rotate_left
                          ·simp only [Act.put, List.setIfInBounds_toArray, List.set_cons_zero, List.set_cons_succ, i64_w, i32_w]
                           rfl
                          refine pure_ (i := 16) (N := some 217) (v := ?_) (a' := ?_) #[true, true, true, true, true, true, true, true, true, true, true, true, true, true, true, true, true, false, false, false, false, false, false, false, false, false, false, false, false, false, false, false, false] rfl rfl (any_of HT_.out (by kernel_rfl)) (fun _ _ _ h => h) (Or.inl ⟨by rfl, ?_⟩) ?_ ?_
                          rotate_left
                          ·intro w'
                           go_simp
                           with_reducible rfl
                          rotate_left
                          ·simp only [Act.put, List.setIfInBounds_toArray, List.set_cons_zero, List.set_cons_succ, i64_w, i32_w]
                           rfl
                          refine pure_ (i := 17) (N := some 218) (v := ?_) (a' := ?_) #[true, true, true, true, true, true, true, true, true, true, true, true, true, true, true, true, true, true, false, false, false, false, false, false, false, false, false, false, false, false, false, false, false] rfl rfl (any_of HT_.out (by kernel_rfl)) (fun _ _ _ h => h) (Or.inl ⟨by rfl, ?_⟩) ?_ ?_
                          rotate_left
                          ·intro w'
                           go_simp
                           with_reducible rfl
                          rotate_left
                          ·simp only [Act.put, List.setIfInBounds_toArray, List.set_cons_zero, List.set_cons_succ, i64_w, i32_w]
                           rfl
                          refine pure_ (i := 18) (N := some 219) (v := undef) (a' := ?_) #[true, true, true, true, true, true, true, true, true, true, true, true, true, true, true, true, true, true, true, false, false, false, false, false, false, false, false, false, false, false, false, false, false] rfl rfl (any_of HT_.out (by kernel_rfl)) (fun _ _ _ h => h) (Or.inr ⟨by rfl, rfl⟩) ?_ ?_
                          rotate_left
                          ·simp only [Act.put, List.setIfInBounds_toArray, List.set_cons_zero, List.set_cons_succ, i64_w, i32_w]
                           rfl
                          refine pure_ (i := 19) (N := some 220) (v := undef) (a' := ?_) #[true, true, true, true, true, true, true, true, true, true, true, true, true, true, true, true, true, true, true, true, false, false, false, false, false, false, false, false, false, false, false, false, false] rfl rfl (any_of HT_.out (by kernel_rfl)) (fun _ _ _ h => h) (Or.inr ⟨by rfl, rfl⟩) ?_ ?_
                          rotate_left
                          ·simp only [Act.put, List.setIfInBounds_toArray, List.set_cons_zero, List.set_cons_succ, i64_w, i32_w]
                           rfl
                          refine pure_ (i := 20) (N := some 221) (v := ?_) (a' := ?_) #[true, true, true, true, true, true, true, true, true, true, true, true, true, true, true, true, true, true, true, true, true, false, false, false, false, false, false, false, false, false, false, false, false] rfl rfl (any_of HT_.out (by kernel_rfl)) (fun _ _ _ h => h) (Or.inl ⟨by rfl, ?_⟩) ?_ ?_
                          rotate_left
                          ·intro w'
                           go_simp
                           with_reducible rfl
                          rotate_left
                          ·simp only [Act.put, List.setIfInBounds_toArray, List.set_cons_zero, List.set_cons_succ, i64_w, i32_w]
                           rfl
                          refine pure_ (i := 21) (N := some 222) (v := ?_) (a' := ?_) #[true, true, true, true, true, true, true, true, true, true, true, true, true, true, true, true, true, true, true, true, true, true, false, false, false, false, false, false, false, false, false, false, false] rfl rfl (any_of HT_.out (by kernel_rfl)) (fun _ _ _ h => h) (Or.inl ⟨by rfl, ?_⟩) ?_ ?_
                          rotate_left
                          ·intro w'
                           go_simp
                           with_reducible rfl
                          rotate_left
                          ·simp only [Act.put, List.setIfInBounds_toArray, List.set_cons_zero, List.set_cons_succ, i64_w, i32_w]
                           rfl
                          refine pure_ (i := 22) (N := some 223) (v := undef) (a' := ?_) #[true, true, true, true, true, true, true, true, true, true, true, true, true, true, true, true, true, true, true, true, true, true, true, false, false, false, false, false, false, false, false, false, false] rfl rfl (any_of HT_.out (by kernel_rfl)) (fun _ _ _ h => h) (Or.inr ⟨by rfl, rfl⟩) ?_ ?_
                          rotate_left
                          ·simp only [Act.put, List.setIfInBounds_toArray, List.set_cons_zero, List.set_cons_succ, i64_w, i32_w]
                           rfl
                          refine pure_ (i := 23) (N := some 224) (v := undef) (a' := ?_) #[true, true, true, true, true, true, true, true, true, true, true, true, true, true, true, true, true, true, true, true, true, true, true, true, false, false, false, false, false, false, false, false, false] rfl rfl (any_of HT_.out (by kernel_rfl)) (fun _ _ _ h => h) (Or.inr ⟨by rfl, rfl⟩) ?_ ?_
                          rotate_left
                          ·simp only [Act.put, List.setIfInBounds_toArray, List.set_cons_zero, List.set_cons_succ, i64_w, i32_w]
                           rfl
                          refine pure_ (i := 24) (N := some 225) (v := undef) (a' := ?_) #[true, true, true, true, true, true, true, true, true, true, true, true, true, true, true, true, true, true, true, true, true, true, true, true, true, false, false, false, false, false, false, false, false] rfl rfl (any_of HT_.out (by kernel_rfl)) (fun _ _ _ h => h) (Or.inr ⟨by rfl, rfl⟩) ?_ ?_
                          rotate_left
                          ·simp only [Act.put, List.setIfInBounds_toArray, List.set_cons_zero, List.set_cons_succ, i64_w, i32_w]
                           rfl
                          refine pure_ (i := 25) (N := some 226) (v := undef) (a' := ?_) #[true, true, true, true, true, true, true, true, true, true, true, true, true, true, true, true, true, true, true, true, true, true, true, true, true, true, false, false, false, false, false, false, false] rfl rfl (any_of HT_.out (by kernel_rfl)) (fun _ _ _ h => h) (Or.inr ⟨by rfl, rfl⟩) ?_ ?_
                          rotate_left
                          ·simp only [Act.put, List.setIfInBounds_toArray, List.set_cons_zero, List.set_cons_succ, i64_w, i32_w]
                           rfl
                          refine pure_ (i := 26) (N := some 227) (v := undef) (a' := ?_) #[true, true, true, true, true, true, true, true, true, true, true, true, true, true, true, true, true, true, true, true, true, true, true, true, true, true, true, false, false, false, false, false, false] rfl rfl (any_of HT_.out (by kernel_rfl)) (fun _ _ _ h => h) (Or.inr ⟨by rfl, rfl⟩) ?_ ?_
                          rotate_left
                          ·simp only [Act.put, List.setIfInBounds_toArray, List.set_cons_zero, List.set_cons_succ, i64_w, i32_w]
                           rfl
                          refine pure_ (i := 27) (N := some 228) (v := undef) (a' := ?_) #[true, true, true, true, true, true, true, true, true, true, true, true, true, true, true, true, true, true, true, true, true, true, true, true, true, true, true, true, false, false, false, false, false] rfl rfl (any_of HT_.out (by kernel_rfl)) (fun _ _ _ h => h) (Or.inr ⟨by rfl, rfl⟩) ?_ ?_
                          rotate_left
                          ·simp only [Act.put, List.setIfInBounds_toArray, List.set_cons_zero, List.set_cons_succ, i64_w, i32_w]
                           rfl
                          refine pure_ (i := 28) (N := some 229) (v := undef) (a' := ?_) #[true, true, true, true, true, true, true, true, true, true, true, true, true, true, true, true, true, true, true, true, true, true, true, true, true, true, true, true, true, false, false, false, false] rfl rfl (any_of HT_.out (by kernel_rfl)) (fun _ _ _ h => h) (Or.inr ⟨by rfl, rfl⟩) ?_ ?_
                          rotate_left
                          ·simp only [Act.put, List.setIfInBounds_toArray, List.set_cons_zero, List.set_cons_succ, i64_w, i32_w]
                           rfl
                          refine pure_ (i := 29) (N := some 230) (v := undef) (a' := ?_) #[true, true, true, true, true, true, true, true, true, true, true, true, true, true, true, true, true, true, true, true, true, true, true, true, true, true, true, true, true, true, false, false, false] rfl rfl (any_of HT_.out (by kernel_rfl)) (fun _ _ _ h => h) (Or.inr ⟨by rfl, rfl⟩) ?_ ?_
                          rotate_left
                          ·simp only [Act.put, List.setIfInBounds_toArray, List.set_cons_zero, List.set_cons_succ, i64_w, i32_w]
                           rfl
                          refine pure_ (i := 30) (N := some 231) (v := undef) (a' := ?_) #[true, true, true, true, true, true, true, true, true, true, true, true, true, true, true, true, true, true, true, true, true, true, true, true, true, true, true, true, true, true, true, false, false] rfl rfl (any_of HT_.out (by kernel_rfl)) (fun _ _ _ h => h) (Or.inr ⟨by rfl, rfl⟩) ?_ ?_
                          rotate_left
                          ·simp only [Act.put, List.setIfInBounds_toArray, List.set_cons_zero, List.set_cons_succ, i64_w, i32_w]
                           rfl
                          refine pure_ (i := 31) (N := some 232) (v := ?_) (a' := ?_) #[true, true, true, true, true, true, true, true, true, true, true, true, true, true, true, true, true, true, true, true, true, true, true, true, true, true, true, true, true, true, true, true, false] rfl rfl (any_of HT_.out (by kernel_rfl)) (fun _ _ _ h => h) (Or.inl ⟨by rfl, ?_⟩) ?_ ?_
                          rotate_left
                          ·intro w'
                           go_simp
                           with_reducible rfl
                          rotate_left
                          ·simp only [Act.put, List.setIfInBounds_toArray, List.set_cons_zero, List.set_cons_succ, i64_w, i32_w]
                           rfl
                          refine pure_ (i := 32) (N := some 233) (v := ?_) (a' := ?_) #[true, true, true, true, true, true, true, true, true, true, true, true, true, true, true, true, true, true, true, true, true, true, true, true, true, true, true, true, true, true, true, true, true] rfl rfl (any_of HT_.out (by kernel_rfl)) (fun _ _ _ h => h) (Or.inl ⟨by rfl, ?_⟩) ?_ ?_
                          rotate_left
                          ·intro w'
                           go_simp
                           with_reducible rfl
                          rotate_left
                          ·simp only [Act.put, List.setIfInBounds_toArray, List.set_cons_zero, List.set_cons_succ, i64_w, i32_w]
                           rfl
                          refine done_ (done_of HT_.out (by kernel_rfl)) ?_
                          try go_wp2
                          refine handF k2 ?measure_z79 hL_l1 (by kernel_rfl) (by kernel_rfl) ?rel_z79
                          case measure_z79 => have := HK1.out; have := HK2.out; omega
                          case rel_z79 => (try simp only [List.getD_cons_succ, List.getD_cons_zero]); exact ⟨(wrap64 (x183_2 + 1)), (by first | rfl | (simp; done) | (simp [*]; done)), H', ⟨by have := HK1.out; have := HK2.out; omega⟩, ⟨by (with_reducible repeat (first | apply Kd.R_alloc | apply Kd.R_drewN | apply Kd.R_drew)); exact HO_6.out⟩, ⟨by (with_reducible repeat (first | apply Kd.R_alloc | apply Kd.R_drewN | apply Kd.R_drew)); exact HO_10.out⟩, ⟨by (with_reducible repeat (first | apply Kd.R_alloc | apply Kd.R_drewN | apply Kd.R_drew)); exact HO_14.out⟩, ⟨by (with_reducible repeat (first | apply Kd.R_alloc | apply Kd.R_drewN | apply Kd.R_drew)); exact HO_18.out⟩, ⟨by (with_reducible repeat (first | apply Kd.R_alloc | apply Kd.R_drewN | apply Kd.R_drew)); exact HO_181.out⟩, ⟨by (with_reducible repeat (first | refine blk_drewN ?_ _ | refine blk_drew ?_ | refine blk_alloc ?_ _)); exact BK449.out⟩, ⟨by repeat (first | (with_reducible first | exact HB.out | apply below_alloc | apply pw_below_drewN | apply below_drew1 | refine below_set ?_ GE449.out) | exact HB.out)⟩⟩
                        ·rw [if_neg c62] at H
                         have c62b0 : ((rd t458 x183_2) == t482) = false := beq_eq_false_iff_ne.mpr c62
                         have c62b1 : ((rd t458 x183_2) != t482) = true := bne_iff_ne.mpr c62
                         obtain rfl := Option.some.inj H
                         exact absurd HT.out (by simp)
                       ·rw [if_neg c61] at H
                        exact absurd H (by simp)
                      ·replace c60 := Bool.eq_false_iff.mpr c60
                       subst c60
                       have H1 : (some false) = some r := by rw [if_neg (show ¬ (false = true) by decide)] at H; exact H
                       clear H
                       have H := H1
                       clear H1
                       obtain rfl := Option.some.inj H
                       exact absurd HT.out (by simp)
                     ·replace c59 := Bool.eq_false_iff.mpr c59
                      subst c59
                      have H1 : (some false) = some r := by rw [if_neg (show ¬ (false = true) by decide)] at H; exact H
                      clear H
                      have H := H1
                      clear H1
                      obtain rfl := Option.some.inj H
                      exact absurd HT.out (by simp)
                    ·rw [if_neg c56] at H
                     exact absurd H (by simp)
                   ·rw [if_neg c55] at H
                    exact absurd H (by simp)
                  ·rw [if_neg c54] at H
                   have c54b0 : decide (x183_2 < (t468.length : Int)) = false := decide_eq_false c54
                   clear c54
                   replace H := Option.bind_eq_some_iff.mp H
                   obtain ⟨⟨t487, t488⟩, A800, H⟩ := H
                   replace H : (if t488 = true then (if t487 ≤ t439 then (if t447 = 0 then ((laws_iSame.f k2 t450 t468).bind fun t489 => (if t489 = true then ((laws_iSame.f k2 t458 t468).bind fun t490 => (if t490 = true then (laws_FnFiltersInWords.j2 k2 l1) else (some false))) else (some false))) else (laws_FnFiltersInWords.j2 k2 l1)) else (laws_FnFiltersInWords.j2 k2 l1)) else (laws_FnFiltersInWords.j2 k2 l1)) = some r := H
                   have A80 := Aside0.mk A800
                   clear A800
                   by_cases c81 : t488 = true
                   ·subst c81
                    have H1 : (if t487 ≤ t439 then (if t447 = 0 then ((laws_iSame.f k2 t450 t468).bind fun t489 => (if t489 = true then ((laws_iSame.f k2 t458 t468).bind fun t490 => (if t490 = true then (laws_FnFiltersInWords.j2 k2 l1) else (some false))) else (some false))) else (laws_FnFiltersInWords.j2 k2 l1)) else (laws_FnFiltersInWords.j2 k2 l1)) = some r := by rw [if_pos rfl] at H; exact H
                    clear H
                    have H := H1
                    clear H1
                    by_cases c82 : t487 ≤ t439
                    ·rw [if_pos c82] at H
                     have c82b0 : decide (t487 ≤ t439) = true := decide_eq_true c82
                     clear c82
                     by_cases c83 : t447 = 0
                     ·rw [if_pos c83] at H
                      have c83b0 : (t447 == 0) = true := beq_iff_eq.mpr c83
                      have c83b1 : (t447 != 0) = false := bne_eq_false_iff_eq.mpr c83
                      clear c83
                      replace H := Option.bind_eq_some_iff.mp H
                      obtain ⟨t489, A840, H⟩ := H
                      replace H : (if t489 = true then ((laws_iSame.f k2 t458 t468).bind fun t490 => (if t490 = true then (laws_FnFiltersInWords.j2 k2 l1) else (some false))) else (some false)) = some r := H
                      have A84 := Aside0.mk A840
                      clear A840
                      by_cases c85 : t489 = true
                      ·subst c85
                       have H1 : ((laws_iSame.f k2 t458 t468).bind fun t490 => (if t490 = true then (laws_FnFiltersInWords.j2 k2 l1) else (some false))) = some r := by rw [if_pos rfl] at H; exact H
                       clear H
                       have H := H1
                       clear H1
                       replace H := Option.bind_eq_some_iff.mp H
                       obtain ⟨t490, A860, H⟩ := H
                       replace H : (if t490 = true then (laws_FnFiltersInWords.j2 k2 l1) else (some false)) = some r := H
                       have A86 := Aside0.mk A860
                       clear A860
                       by_cases c87 : t490 = true
                       ·subst c87
                        have H1 : (laws_FnFiltersInWords.j2 k2 l1) = some r := by rw [if_pos rfl] at H; exact H
                        clear H
                        have H := H1
                        clear H1
                        have H' := Aside0.mk H
                        clear H
                        have hcz88_0 : wr.cell? ⟨gb449, 0, none⟩ = some (.int .i64 t439) := (blk_cell BK449.out 0).trans rfl
                        have hcz88_1 : wr.cell? ⟨gb449, 1, none⟩ = some (.bool t440) := (blk_cell BK449.out 1).trans rfl
                        have hfz88_0 := blk_frozen BK449.out 0
                        have hfz88_1 := blk_frozen BK449.out 1
                        go_wp2_with (first | ((with_reducible refine gate_callee (f := 38) rfl ?_); refine goesL_ (some 238) rfl rfl Try.func38 (by kernel_rfl) rfl #[.slice Ao21 t441.length co21, .agg #[.int .i64 t439, .bool t440]] rfl (by (try simp only [List.map_toArray, List.map_cons, List.map_nil]); first | done | rfl | (simp only [List.length_drop, List.length_take]; rfl)) ?_; (with_reducible refine (impl_BitsNeeded.calls k2 _ _ t441 t439 t440 t487 true _ ?side1 ?side2 A80.out).mono ?_); (case side1 => repeat (first | exact (Kd.R_reads' HO_6.out).2.2 | (with_reducible refine Kd.C_alloc ?_ _) | (with_reducible refine Kd.C_drewN ?_ _) | (with_reducible refine Kd.C_drew ?_))); (case side2 => exact (Kd.R_reads' HO_6.out).2.1); rintro e w89 ⟨rfl, hb⟩; refine ⟨_, rfl, ?_⟩; have n0_ := Aside0.mk (Kd.R_below (by (with_reducible repeat (first | apply Kd.R_alloc | apply Kd.R_drewN | apply Kd.R_drew)); exact HO_6.out) hb); have n1_ := Aside0.mk (Kd.R_below (by (with_reducible repeat (first | apply Kd.R_alloc | apply Kd.R_drewN | apply Kd.R_drew)); exact HO_10.out) hb); have n2_ := Aside0.mk (Kd.R_below (by (with_reducible repeat (first | apply Kd.R_alloc | apply Kd.R_drewN | apply Kd.R_drew)); exact HO_14.out) hb); have n3_ := Aside0.mk (Kd.R_below (by (with_reducible repeat (first | apply Kd.R_alloc | apply Kd.R_drewN | apply Kd.R_drew)); exact HO_18.out) hb); have n4_ := Aside0.mk (Kd.R_below (by (with_reducible repeat (first | apply Kd.R_alloc | apply Kd.R_drewN | apply Kd.R_drew)); exact HO_181.out) hb); have n5_ := Aside0.mk (blk_below (g := gb449) (o := .cells #[.int .i64 t439, .bool t440] 44 (0, 0)) (by (with_reducible repeat (first | refine blk_drewN ?_ _ | refine blk_drew ?_ | refine blk_alloc ?_ _)); exact BK449.out) hb); have n6_ := Aside0.mk (below_step (by repeat (first | (with_reducible first | exact HB.out | apply below_alloc | apply pw_below_drewN | apply below_drew1 | refine below_set ?_ GE449.out) | exact HB.out)) hb); clear HO_6; clear HO_10; clear HO_14; clear HO_18; clear HO_181; clear BK449; clear HB; have HO_6 := n0_; have HO_10 := n1_; have HO_14 := n2_; have HO_18 := n3_; have HO_181 := n4_; have BK449 := n5_; have HB := n6_; clear n0_ n1_ n2_ n3_ n4_ n5_ n6_; (try clear hb); (try clear hb2); (try clear hk); (try clear hi); have hcz90_0 : w89.cell? ⟨gb449, 0, none⟩ = some (.int .i64 t439) := (blk_cell BK449.out 0).trans rfl; have hcz90_1 : w89.cell? ⟨gb449, 1, none⟩ = some (.bool t440) := (blk_cell BK449.out 1).trans rfl; have hfz90_0 := blk_frozen BK449.out 0; have hfz90_1 := blk_frozen BK449.out 1) | (go_at_call 14; (with_reducible refine (laws_iSame.calls k2 _ _ t450 _ _ t468 true _ ?side1 ?side2 ?side3 ?side4 A84.out).mono ?_); (case side1 => repeat (first | exact (Kd.R_reads' HO_10.out).2.2 | (with_reducible refine Kd.C_alloc ?_ _) | (with_reducible refine Kd.C_drewN ?_ _) | (with_reducible refine Kd.C_drew ?_))); (case side2 => exact (Kd.R_reads' HO_10.out).2.1); (case side3 => repeat (first | exact (Kd.R_reads' HO_18.out).2.2 | (with_reducible refine Kd.C_alloc ?_ _) | (with_reducible refine Kd.C_drewN ?_ _) | (with_reducible refine Kd.C_drew ?_))); (case side4 => exact (Kd.R_reads' HO_18.out).2.1); rintro e w' ⟨rfl, ⟨nd, rfl⟩⟩) | (go_at_call 14; (with_reducible refine (laws_iSame.calls k2 _ _ t458 _ _ t468 true _ ?side1 ?side2 ?side3 ?side4 A86.out).mono ?_); (case side1 => repeat (first | exact (Kd.R_reads' HO_14.out).2.2 | (with_reducible refine Kd.C_alloc ?_ _) | (with_reducible refine Kd.C_drewN ?_ _) | (with_reducible refine Kd.C_drew ?_))); (case side2 => exact (Kd.R_reads' HO_14.out).2.1); (case side3 => repeat (first | exact (Kd.R_reads' HO_18.out).2.2 | (with_reducible refine Kd.C_alloc ?_ _) | (with_reducible refine Kd.C_drewN ?_ _) | (with_reducible refine Kd.C_drew ?_))); (case side4 => exact (Kd.R_reads' HO_18.out).2.1); rintro e w' ⟨rfl, ⟨nd, rfl⟩⟩))
                        refine meetF hJ_j2 (by kernel_rfl) (by kernel_rfl) ?rel_z91
                        case rel_z91 => (try simp only [List.getD_cons_succ, List.getD_cons_zero]); exact ⟨_, H', ⟨by have := HK1.out; have := HK2.out; first | omega | exact Nat.le_refl _⟩, ⟨by (with_reducible repeat (first | refine blk_drewN ?_ _ | refine blk_drew ?_ | refine blk_alloc ?_ _)); exact BK449.out⟩, ⟨by repeat (first | (with_reducible first | exact HB.out | apply below_alloc | apply pw_below_drewN | apply below_drew1 | refine below_set ?_ GE449.out) | exact HB.out)⟩⟩
                       ·replace c87 := Bool.eq_false_iff.mpr c87
                        subst c87
                        have H1 : (some false) = some r := by rw [if_neg (show ¬ (false = true) by decide)] at H; exact H
                        clear H
                        have H := H1
                        clear H1
                        obtain rfl := Option.some.inj H
                        exact absurd HT.out (by simp)
                      ·replace c85 := Bool.eq_false_iff.mpr c85
                       subst c85
                       have H1 : (some false) = some r := by rw [if_neg (show ¬ (false = true) by decide)] at H; exact H
                       clear H
                       have H := H1
                       clear H1
                       obtain rfl := Option.some.inj H
                       exact absurd HT.out (by simp)
                     ·rw [if_neg c83] at H
                      have c83b0 : (t447 == 0) = false := beq_eq_false_iff_ne.mpr c83
                      have c83b1 : (t447 != 0) = true := bne_iff_ne.mpr c83
                      have H' := Aside0.mk H
                      clear H
                      have hcz92_0 : wr.cell? ⟨gb449, 0, none⟩ = some (.int .i64 t439) := (blk_cell BK449.out 0).trans rfl
                      have hcz92_1 : wr.cell? ⟨gb449, 1, none⟩ = some (.bool t440) := (blk_cell BK449.out 1).trans rfl
                      have hfz92_0 := blk_frozen BK449.out 0
                      have hfz92_1 := blk_frozen BK449.out 1
                      go_wp2_with (first | ((with_reducible refine gate_callee (f := 38) rfl ?_); refine goesL_ (some 238) rfl rfl Try.func38 (by kernel_rfl) rfl #[.slice Ao21 t441.length co21, .agg #[.int .i64 t439, .bool t440]] rfl (by (try simp only [List.map_toArray, List.map_cons, List.map_nil]); first | done | rfl | (simp only [List.length_drop, List.length_take]; rfl)) ?_; (with_reducible refine (impl_BitsNeeded.calls k2 _ _ t441 t439 t440 t487 true _ ?side1 ?side2 A80.out).mono ?_); (case side1 => repeat (first | exact (Kd.R_reads' HO_6.out).2.2 | (with_reducible refine Kd.C_alloc ?_ _) | (with_reducible refine Kd.C_drewN ?_ _) | (with_reducible refine Kd.C_drew ?_))); (case side2 => exact (Kd.R_reads' HO_6.out).2.1); rintro e w93 ⟨rfl, hb⟩; refine ⟨_, rfl, ?_⟩; have n0_ := Aside0.mk (Kd.R_below (by (with_reducible repeat (first | apply Kd.R_alloc | apply Kd.R_drewN | apply Kd.R_drew)); exact HO_6.out) hb); have n1_ := Aside0.mk (Kd.R_below (by (with_reducible repeat (first | apply Kd.R_alloc | apply Kd.R_drewN | apply Kd.R_drew)); exact HO_10.out) hb); have n2_ := Aside0.mk (Kd.R_below (by (with_reducible repeat (first | apply Kd.R_alloc | apply Kd.R_drewN | apply Kd.R_drew)); exact HO_14.out) hb); have n3_ := Aside0.mk (Kd.R_below (by (with_reducible repeat (first | apply Kd.R_alloc | apply Kd.R_drewN | apply Kd.R_drew)); exact HO_18.out) hb); have n4_ := Aside0.mk (Kd.R_below (by (with_reducible repeat (first | apply Kd.R_alloc | apply Kd.R_drewN | apply Kd.R_drew)); exact HO_181.out) hb); have n5_ := Aside0.mk (blk_below (g := gb449) (o := .cells #[.int .i64 t439, .bool t440] 44 (0, 0)) (by (with_reducible repeat (first | refine blk_drewN ?_ _ | refine blk_drew ?_ | refine blk_alloc ?_ _)); exact BK449.out) hb); have n6_ := Aside0.mk (below_step (by repeat (first | (with_reducible first | exact HB.out | apply below_alloc | apply pw_below_drewN | apply below_drew1 | refine below_set ?_ GE449.out) | exact HB.out)) hb); clear HO_6; clear HO_10; clear HO_14; clear HO_18; clear HO_181; clear BK449; clear HB; have HO_6 := n0_; have HO_10 := n1_; have HO_14 := n2_; have HO_18 := n3_; have HO_181 := n4_; have BK449 := n5_; have HB := n6_; clear n0_ n1_ n2_ n3_ n4_ n5_ n6_; (try clear hb); (try clear hb2); (try clear hk); (try clear hi); have hcz94_0 : w93.cell? ⟨gb449, 0, none⟩ = some (.int .i64 t439) := (blk_cell BK449.out 0).trans rfl; have hcz94_1 : w93.cell? ⟨gb449, 1, none⟩ = some (.bool t440) := (blk_cell BK449.out 1).trans rfl; have hfz94_0 := blk_frozen BK449.out 0; have hfz94_1 := blk_frozen BK449.out 1))
                      refine meetF hJ_j2 (by kernel_rfl) (by kernel_rfl) ?rel_z95
                      case rel_z95 => (try simp only [List.getD_cons_succ, List.getD_cons_zero]); exact ⟨_, H', ⟨by have := HK1.out; have := HK2.out; first | omega | exact Nat.le_refl _⟩, ⟨by (with_reducible repeat (first | refine blk_drewN ?_ _ | refine blk_drew ?_ | refine blk_alloc ?_ _)); exact BK449.out⟩, ⟨by repeat (first | (with_reducible first | exact HB.out | apply below_alloc | apply pw_below_drewN | apply below_drew1 | refine below_set ?_ GE449.out) | exact HB.out)⟩⟩
                    ·rw [if_neg c82] at H
                     have c82b0 : decide (t487 ≤ t439) = false := decide_eq_false c82
                     clear c82
                     have H' := Aside0.mk H
                     clear H
                     have hcz96_0 : wr.cell? ⟨gb449, 0, none⟩ = some (.int .i64 t439) := (blk_cell BK449.out 0).trans rfl
                     have hcz96_1 : wr.cell? ⟨gb449, 1, none⟩ = some (.bool t440) := (blk_cell BK449.out 1).trans rfl
                     have hfz96_0 := blk_frozen BK449.out 0
                     have hfz96_1 := blk_frozen BK449.out 1
                     go_wp2_with (first | ((with_reducible refine gate_callee (f := 38) rfl ?_); refine goesL_ (some 238) rfl rfl Try.func38 (by kernel_rfl) rfl #[.slice Ao21 t441.length co21, .agg #[.int .i64 t439, .bool t440]] rfl (by (try simp only [List.map_toArray, List.map_cons, List.map_nil]); first | done | rfl | (simp only [List.length_drop, List.length_take]; rfl)) ?_; (with_reducible refine (impl_BitsNeeded.calls k2 _ _ t441 t439 t440 t487 true _ ?side1 ?side2 A80.out).mono ?_); (case side1 => repeat (first | exact (Kd.R_reads' HO_6.out).2.2 | (with_reducible refine Kd.C_alloc ?_ _) | (with_reducible refine Kd.C_drewN ?_ _) | (with_reducible refine Kd.C_drew ?_))); (case side2 => exact (Kd.R_reads' HO_6.out).2.1); rintro e w97 ⟨rfl, hb⟩; refine ⟨_, rfl, ?_⟩; have n0_ := Aside0.mk (Kd.R_below (by (with_reducible repeat (first | apply Kd.R_alloc | apply Kd.R_drewN | apply Kd.R_drew)); exact HO_6.out) hb); have n1_ := Aside0.mk (Kd.R_below (by (with_reducible repeat (first | apply Kd.R_alloc | apply Kd.R_drewN | apply Kd.R_drew)); exact HO_10.out) hb); have n2_ := Aside0.mk (Kd.R_below (by (with_reducible repeat (first | apply Kd.R_alloc | apply Kd.R_drewN | apply Kd.R_drew)); exact HO_14.out) hb); have n3_ := Aside0.mk (Kd.R_below (by (with_reducible repeat (first | apply Kd.R_alloc | apply Kd.R_drewN | apply Kd.R_drew)); exact HO_18.out) hb); have n4_ := Aside0.mk (Kd.R_below (by (with_reducible repeat (first | apply Kd.R_alloc | apply Kd.R_drewN | apply Kd.R_drew)); exact HO_181.out) hb); have n5_ := Aside0.mk (blk_below (g := gb449) (o := .cells #[.int .i64 t439, .bool t440] 44 (0, 0)) (by (with_reducible repeat (first | refine blk_drewN ?_ _ | refine blk_drew ?_ | refine blk_alloc ?_ _)); exact BK449.out) hb); have n6_ := Aside0.mk (below_step (by repeat (first | (with_reducible first | exact HB.out | apply below_alloc | apply pw_below_drewN | apply below_drew1 | refine below_set ?_ GE449.out) | exact HB.out)) hb); clear HO_6; clear HO_10; clear HO_14; clear HO_18; clear HO_181; clear BK449; clear HB; have HO_6 := n0_; have HO_10 := n1_; have HO_14 := n2_; have HO_18 := n3_; have HO_181 := n4_; have BK449 := n5_; have HB := n6_; clear n0_ n1_ n2_ n3_ n4_ n5_ n6_; (try clear hb); (try clear hb2); (try clear hk); (try clear hi); have hcz98_0 : w97.cell? ⟨gb449, 0, none⟩ = some (.int .i64 t439) := (blk_cell BK449.out 0).trans rfl; have hcz98_1 : w97.cell? ⟨gb449, 1, none⟩ = some (.bool t440) := (blk_cell BK449.out 1).trans rfl; have hfz98_0 := blk_frozen BK449.out 0; have hfz98_1 := blk_frozen BK449.out 1))
                     refine meetF hJ_j2 (by kernel_rfl) (by kernel_rfl) ?rel_z99
                     case rel_z99 => (try simp only [List.getD_cons_succ, List.getD_cons_zero]); exact ⟨_, H', ⟨by have := HK1.out; have := HK2.out; first | omega | exact Nat.le_refl _⟩, ⟨by (with_reducible repeat (first | refine blk_drewN ?_ _ | refine blk_drew ?_ | refine blk_alloc ?_ _)); exact BK449.out⟩, ⟨by repeat (first | (with_reducible first | exact HB.out | apply below_alloc | apply pw_below_drewN | apply below_drew1 | refine below_set ?_ GE449.out) | exact HB.out)⟩⟩
                   ·replace c81 := Bool.eq_false_iff.mpr c81
                    subst c81
                    have H1 : (laws_FnFiltersInWords.j2 k2 l1) = some r := by rw [if_neg (show ¬ (false = true) by decide)] at H; exact H
                    clear H
                    have H := H1
                    clear H1
                    have H' := Aside0.mk H
                    clear H
                    have hcz100_0 : wr.cell? ⟨gb449, 0, none⟩ = some (.int .i64 t439) := (blk_cell BK449.out 0).trans rfl
                    have hcz100_1 : wr.cell? ⟨gb449, 1, none⟩ = some (.bool t440) := (blk_cell BK449.out 1).trans rfl
                    have hfz100_0 := blk_frozen BK449.out 0
                    have hfz100_1 := blk_frozen BK449.out 1
                    go_wp2_with (first | ((with_reducible refine gate_callee (f := 38) rfl ?_); refine goesL_ (some 238) rfl rfl Try.func38 (by kernel_rfl) rfl #[.slice Ao21 t441.length co21, .agg #[.int .i64 t439, .bool t440]] rfl (by (try simp only [List.map_toArray, List.map_cons, List.map_nil]); first | done | rfl | (simp only [List.length_drop, List.length_take]; rfl)) ?_; (with_reducible refine (impl_BitsNeeded.calls k2 _ _ t441 t439 t440 t487 false _ ?side1 ?side2 A80.out).mono ?_); (case side1 => repeat (first | exact (Kd.R_reads' HO_6.out).2.2 | (with_reducible refine Kd.C_alloc ?_ _) | (with_reducible refine Kd.C_drewN ?_ _) | (with_reducible refine Kd.C_drew ?_))); (case side2 => exact (Kd.R_reads' HO_6.out).2.1); rintro e w101 ⟨rfl, hb⟩; refine ⟨_, rfl, ?_⟩; have n0_ := Aside0.mk (Kd.R_below (by (with_reducible repeat (first | apply Kd.R_alloc | apply Kd.R_drewN | apply Kd.R_drew)); exact HO_6.out) hb); have n1_ := Aside0.mk (Kd.R_below (by (with_reducible repeat (first | apply Kd.R_alloc | apply Kd.R_drewN | apply Kd.R_drew)); exact HO_10.out) hb); have n2_ := Aside0.mk (Kd.R_below (by (with_reducible repeat (first | apply Kd.R_alloc | apply Kd.R_drewN | apply Kd.R_drew)); exact HO_14.out) hb); have n3_ := Aside0.mk (Kd.R_below (by (with_reducible repeat (first | apply Kd.R_alloc | apply Kd.R_drewN | apply Kd.R_drew)); exact HO_18.out) hb); have n4_ := Aside0.mk (Kd.R_below (by (with_reducible repeat (first | apply Kd.R_alloc | apply Kd.R_drewN | apply Kd.R_drew)); exact HO_181.out) hb); have n5_ := Aside0.mk (blk_below (g := gb449) (o := .cells #[.int .i64 t439, .bool t440] 44 (0, 0)) (by (with_reducible repeat (first | refine blk_drewN ?_ _ | refine blk_drew ?_ | refine blk_alloc ?_ _)); exact BK449.out) hb); have n6_ := Aside0.mk (below_step (by repeat (first | (with_reducible first | exact HB.out | apply below_alloc | apply pw_below_drewN | apply below_drew1 | refine below_set ?_ GE449.out) | exact HB.out)) hb); clear HO_6; clear HO_10; clear HO_14; clear HO_18; clear HO_181; clear BK449; clear HB; have HO_6 := n0_; have HO_10 := n1_; have HO_14 := n2_; have HO_18 := n3_; have HO_181 := n4_; have BK449 := n5_; have HB := n6_; clear n0_ n1_ n2_ n3_ n4_ n5_ n6_; (try clear hb); (try clear hb2); (try clear hk); (try clear hi)))
                    refine meetF hJ_j2 (by kernel_rfl) (by kernel_rfl) ?rel_z102
                    case rel_z102 => (try simp only [List.getD_cons_succ, List.getD_cons_zero]); exact ⟨_, H', ⟨by have := HK1.out; have := HK2.out; first | omega | exact Nat.le_refl _⟩, ⟨by (with_reducible repeat (first | refine blk_drewN ?_ _ | refine blk_drew ?_ | refine blk_alloc ?_ _)); exact BK449.out⟩, ⟨by repeat (first | (with_reducible first | exact HB.out | apply below_alloc | apply pw_below_drewN | apply below_drew1 | refine below_set ?_ GE449.out) | exact HB.out)⟩⟩
               ·replace c52 := Bool.eq_false_iff.mpr c52
                subst c52
                have H1 : (laws_FnFiltersInWords.j2 k1 l1) = some r := by rw [if_neg (show ¬ (false = true) by decide)] at H; exact H
                clear H
                have H := H1
                clear H1
                have H' := Aside0.mk H
                clear H
                go_wp2
                refine meetF hJ_j2 (by kernel_rfl) (by kernel_rfl) ?rel_z103
                case rel_z103 => (try simp only [List.getD_cons_succ, List.getD_cons_zero]); exact ⟨_, H', ⟨by have := HK1.out; first | omega | exact Nat.le_refl _⟩, ⟨by (with_reducible repeat (first | refine blk_drewN ?_ _ | refine blk_drew ?_ | refine blk_alloc ?_ _)); exact BK449.out⟩, ⟨by repeat (first | (with_reducible first | exact HB.out | apply below_alloc | apply pw_below_drewN | apply below_drew1 | refine below_set ?_ GE449.out) | exact HB.out)⟩⟩
           ·rw [if_neg c39] at H
            have c39b0 : ((t458.length : Int) == (t444.length : Int)) = false := beq_eq_false_iff_ne.mpr c39
            have c39b1 : ((t458.length : Int) != (t444.length : Int)) = true := bne_iff_ne.mpr c39
            have c39b2 : (t458.length == t444.length) = false := by first | simpa using c39 | (simp at c39 ⊢; omega)
            obtain rfl := Option.some.inj H
            exact absurd HT.out (by simp)
          ·rw [if_neg c38] at H
           have c38b0 : ((t450.length : Int) == (t444.length : Int)) = false := beq_eq_false_iff_ne.mpr c38
           have c38b1 : ((t450.length : Int) != (t444.length : Int)) = true := bne_iff_ne.mpr c38
           have c38b2 : (t450.length == t444.length) = false := by first | simpa using c38 | (simp at c38 ⊢; omega)
           (first | rw [c38b0] | (simp only [i64_w, i32_w]; rw [c38b0]) | skip)
           obtain rfl := Option.some.inj H
           exact absurd HT.out (by simp)
         ·replace c37 := Bool.eq_false_iff.mpr c37
          subst c37
          have H1 : (some false) = some r := by rw [if_neg (show ¬ (false = true) by decide)] at H; exact H
          clear H
          have H := H1
          clear H1
          obtain rfl := Option.some.inj H
          exact absurd HT.out (by simp)
        ·replace c34 := Bool.eq_false_iff.mpr c34
         subst c34
         have H1 : (laws_FnFiltersInWords.j2 k l1) = some r := by rw [if_neg (show ¬ (false = true) by decide)] at H; exact H
         clear H
         have H := H1
         clear H1
         have H' := Aside0.mk H
         clear H
         go_wp2
         refine meetF hJ_j2 (by kernel_rfl) (by kernel_rfl) ?rel_z104
         case rel_z104 => (try simp only [List.getD_cons_succ, List.getD_cons_zero]); exact ⟨_, H', ⟨by first | omega | exact Nat.le_refl _⟩, ⟨by (with_reducible repeat (first | refine blk_drewN ?_ _ | refine blk_drew ?_ | refine blk_alloc ?_ _)); exact BK449.out⟩, ⟨by repeat (first | (with_reducible first | exact HB.out | apply below_alloc | apply pw_below_drewN | apply below_drew1 | refine below_set ?_ GE449.out) | exact HB.out)⟩⟩
       case rest_j2 => as_aux_lemma =>
        intro f_ wc hcut
        dsimp only [ov]
        clear HC17
        try clear p2
        try clear c3
        try clear p4
        try clear q4
        try clear hx4
        try clear c5
        try clear c6
        try clear p6
        try clear c8
        try clear c34
        try clear c35
        try clear c36
        try clear c37
        try clear c38
        try clear c38b0
        try clear c38b1
        try clear c38b2
        try clear c39
        try clear c39b0
        try clear c39b1
        try clear c39b2
        try clear p47
        try clear q47
        try clear hx47
        try clear p48
        try clear q48
        try clear hx48
        try clear c52
        try clear c54
        try clear c54b0
        try clear c55
        try clear c56
        try clear c59
        try clear c60
        try clear c61
        try clear c62
        try clear c62b0
        try clear c62b1
        try clear c63
        try clear c63b0
        try clear c63b1
        try clear p64
        try clear c81
        try clear c82
        try clear c82b0
        try clear c83
        try clear c83b0
        try clear c83b1
        try clear c85
        try clear c87
        try clear hcz100_0
        try clear hcz100_1
        try clear hcz76_0
        try clear hcz76_1
        try clear hcz88_0
        try clear hcz88_1
        try clear hcz90_0
        try clear hcz90_1
        try clear hcz92_0
        try clear hcz92_1
        try clear hcz94_0
        try clear hcz94_1
        try clear hcz96_0
        try clear hcz96_1
        try clear hcz98_0
        try clear hcz98_1
        try clear hfz100_0
        try clear hfz100_1
        try clear hfz76_0
        try clear hfz76_1
        try clear hfz88_0
        try clear hfz88_1
        try clear hfz90_0
        try clear hfz90_1
        try clear hfz92_0
        try clear hfz92_1
        try clear hfz94_0
        try clear hfz94_1
        try clear hfz96_0
        try clear hfz96_1
        try clear hfz98_0
        try clear hfz98_1
        try clear hx479_0
        try clear hx484_0
        try clear p479
        try clear p484
        try clear q479
        try clear q484
        obtain ⟨kq, HA, HJ16, BK449, HB⟩ := hcut
        cases kq with
        | zero => exact absurd HA.out (by simp [laws_FnFiltersInWords.j2])
        | succ kj16 =>
         have H := HA.out
         clear HA
         simp only [laws_FnFiltersInWords.j2] at H
         replace H := Option.bind_eq_some_iff.mp H
         obtain ⟨⟨t491, t494, t495⟩, A1050, H⟩ := H
         replace H : ((impl_BitsNeeded.f kj16 t491 t494 t495).bind fun bt497 => ((spec_BitsNeeded.f kj16 t491 t494 t495).bind fun bt499 => (if (bt497.2 != bt499.2) = true then (some false) else (if bt497.1 = bt499.1 then (if bt497.2 = true then ((impl_SizeGain.f kj16 t491).bind fun bt501 => ((impl_RangeOf.f t494 t495).bind fun bt503 => (if bt501.2 = true then (if bt503.2.2 = true then (if 0 ≤ (wrap64 (bt497.1 - 1)) then (if (wrap64 (bt501.1 * (wrap64 (-bt503.1)))) > (wrap64 ((shl .i64 1 (wrap64 (bt497.1 - 1))) + bt501.1)) then (some false) else (if bt497.1 > 2 then (if 0 ≤ (wrap64 (bt497.1 - 2)) then (if (wrap64 (bt501.1 * (wrap64 ((wrap64 (-bt503.1)) - 1)))) < (wrap64 ((shl .i64 1 (wrap64 (bt497.1 - 2))) - bt501.1)) then (if bt501.1 > 0 then (if (wrap64 (bt501.1 * (wrap64 (-bt503.1)))) < (shl .i64 1 (wrap64 (bt497.1 - 2))) then (some false) else (some true)) else (some true)) else (some true)) else (none)) else (some true))) else (none)) else (some false)) else (some false)))) else (some true)) else (some false))))) = some r := H
         have A105 := Aside0.mk A1050
         clear A1050
         replace H := Option.bind_eq_some_iff.mp H
         obtain ⟨⟨t497, t498⟩, A1060, H⟩ := H
         replace H : ((spec_BitsNeeded.f kj16 t491 t494 t495).bind fun bt499 => (if (t498 != bt499.2) = true then (some false) else (if t497 = bt499.1 then (if t498 = true then ((impl_SizeGain.f kj16 t491).bind fun bt501 => ((impl_RangeOf.f t494 t495).bind fun bt503 => (if bt501.2 = true then (if bt503.2.2 = true then (if 0 ≤ (wrap64 (t497 - 1)) then (if (wrap64 (bt501.1 * (wrap64 (-bt503.1)))) > (wrap64 ((shl .i64 1 (wrap64 (t497 - 1))) + bt501.1)) then (some false) else (if t497 > 2 then (if 0 ≤ (wrap64 (t497 - 2)) then (if (wrap64 (bt501.1 * (wrap64 ((wrap64 (-bt503.1)) - 1)))) < (wrap64 ((shl .i64 1 (wrap64 (t497 - 2))) - bt501.1)) then (if bt501.1 > 0 then (if (wrap64 (bt501.1 * (wrap64 (-bt503.1)))) < (shl .i64 1 (wrap64 (t497 - 2))) then (some false) else (some true)) else (some true)) else (some true)) else (none)) else (some true))) else (none)) else (some false)) else (some false)))) else (some true)) else (some false)))) = some r := H
         have A106 := Aside0.mk A1060
         clear A1060
         replace H := Option.bind_eq_some_iff.mp H
         obtain ⟨⟨t499, t500⟩, A1070, H⟩ := H
         replace H : (if (t498 != t500) = true then (some false) else (if t497 = t499 then (if t498 = true then ((impl_SizeGain.f kj16 t491).bind fun bt501 => ((impl_RangeOf.f t494 t495).bind fun bt503 => (if bt501.2 = true then (if bt503.2.2 = true then (if 0 ≤ (wrap64 (t497 - 1)) then (if (wrap64 (bt501.1 * (wrap64 (-bt503.1)))) > (wrap64 ((shl .i64 1 (wrap64 (t497 - 1))) + bt501.1)) then (some false) else (if t497 > 2 then (if 0 ≤ (wrap64 (t497 - 2)) then (if (wrap64 (bt501.1 * (wrap64 ((wrap64 (-bt503.1)) - 1)))) < (wrap64 ((shl .i64 1 (wrap64 (t497 - 2))) - bt501.1)) then (if bt501.1 > 0 then (if (wrap64 (bt501.1 * (wrap64 (-bt503.1)))) < (shl .i64 1 (wrap64 (t497 - 2))) then (some false) else (some true)) else (some true)) else (some true)) else (none)) else (some true))) else (none)) else (some false)) else (some false)))) else (some true)) else (some false))) = some r := H
         have A107 := Aside0.mk A1070
         clear A1070
         by_cases c108 : (t498 != t500) = true
         ·rw [if_pos c108] at H
          have c108b0 : (t498 != t500) = true := c108
          (try (have c108b1 : decide (t498 = t500) = false := by simpa using c108))
          (try (have c108b2 : (t498 == t500) = false := by simpa using c108))
          (try (have c108b3 : ¬ (t498 = t500) := by simpa using c108))
          clear c108
          obtain rfl := Option.some.inj H
          exact absurd HT.out (by simp)
         ·rw [if_neg c108] at H
          have c108b0 : (t498 != t500) = false := by simpa using c108
          (try (have c108b1 : decide (t498 = t500) = true := by simpa using c108))
          (try (have c108b2 : (t498 == t500) = true := by simpa using c108))
          clear c108
          by_cases c109 : t497 = t499
          ·rw [if_pos c109] at H
           have c109b0 : (t497 == t499) = true := beq_iff_eq.mpr c109
           have c109b1 : (t497 != t499) = false := bne_eq_false_iff_eq.mpr c109
           clear c109
           by_cases c110 : t498 = true
           ·subst c110
            have H1 : ((impl_SizeGain.f kj16 t491).bind fun bt501 => ((impl_RangeOf.f t494 t495).bind fun bt503 => (if bt501.2 = true then (if bt503.2.2 = true then (if 0 ≤ (wrap64 (t497 - 1)) then (if (wrap64 (bt501.1 * (wrap64 (-bt503.1)))) > (wrap64 ((shl .i64 1 (wrap64 (t497 - 1))) + bt501.1)) then (some false) else (if t497 > 2 then (if 0 ≤ (wrap64 (t497 - 2)) then (if (wrap64 (bt501.1 * (wrap64 ((wrap64 (-bt503.1)) - 1)))) < (wrap64 ((shl .i64 1 (wrap64 (t497 - 2))) - bt501.1)) then (if bt501.1 > 0 then (if (wrap64 (bt501.1 * (wrap64 (-bt503.1)))) < (shl .i64 1 (wrap64 (t497 - 2))) then (some false) else (some true)) else (some true)) else (some true)) else (none)) else (some true))) else (none)) else (some false)) else (some false)))) = some r := by rw [if_pos rfl] at H; exact H
            clear H
            have H := H1
            clear H1
            replace H := Option.bind_eq_some_iff.mp H
            obtain ⟨⟨t501, t502⟩, A1110, H⟩ := H
            replace H : ((impl_RangeOf.f t494 t495).bind fun bt503 => (if t502 = true then (if bt503.2.2 = true then (if 0 ≤ (wrap64 (t497 - 1)) then (if (wrap64 (t501 * (wrap64 (-bt503.1)))) > (wrap64 ((shl .i64 1 (wrap64 (t497 - 1))) + t501)) then (some false) else (if t497 > 2 then (if 0 ≤ (wrap64 (t497 - 2)) then (if (wrap64 (t501 * (wrap64 ((wrap64 (-bt503.1)) - 1)))) < (wrap64 ((shl .i64 1 (wrap64 (t497 - 2))) - t501)) then (if t501 > 0 then (if (wrap64 (t501 * (wrap64 (-bt503.1)))) < (shl .i64 1 (wrap64 (t497 - 2))) then (some false) else (some true)) else (some true)) else (some true)) else (none)) else (some true))) else (none)) else (some false)) else (some false))) = some r := H
            have A111 := Aside0.mk A1110
            clear A1110
            replace H := Option.bind_eq_some_iff.mp H
            obtain ⟨⟨t503, t504, t505⟩, A1120, H⟩ := H
            replace H : (if t502 = true then (if t505 = true then (if 0 ≤ (wrap64 (t497 - 1)) then (if (wrap64 (t501 * (wrap64 (-t503)))) > (wrap64 ((shl .i64 1 (wrap64 (t497 - 1))) + t501)) then (some false) else (if t497 > 2 then (if 0 ≤ (wrap64 (t497 - 2)) then (if (wrap64 (t501 * (wrap64 ((wrap64 (-t503)) - 1)))) < (wrap64 ((shl .i64 1 (wrap64 (t497 - 2))) - t501)) then (if t501 > 0 then (if (wrap64 (t501 * (wrap64 (-t503)))) < (shl .i64 1 (wrap64 (t497 - 2))) then (some false) else (some true)) else (some true)) else (some true)) else (none)) else (some true))) else (none)) else (some false)) else (some false)) = some r := H
            have A112 := Aside0.mk A1120
            clear A1120
            by_cases c113 : t502 = true
            ·subst c113
             have H1 : (if t505 = true then (if 0 ≤ (wrap64 (t497 - 1)) then (if (wrap64 (t501 * (wrap64 (-t503)))) > (wrap64 ((shl .i64 1 (wrap64 (t497 - 1))) + t501)) then (some false) else (if t497 > 2 then (if 0 ≤ (wrap64 (t497 - 2)) then (if (wrap64 (t501 * (wrap64 ((wrap64 (-t503)) - 1)))) < (wrap64 ((shl .i64 1 (wrap64 (t497 - 2))) - t501)) then (if t501 > 0 then (if (wrap64 (t501 * (wrap64 (-t503)))) < (shl .i64 1 (wrap64 (t497 - 2))) then (some false) else (some true)) else (some true)) else (some true)) else (none)) else (some true))) else (none)) else (some false)) = some r := by rw [if_pos rfl] at H; exact H
             clear H
             have H := H1
             clear H1
             by_cases c114 : t505 = true
             ·subst c114
              have H1 : (if 0 ≤ (wrap64 (t497 - 1)) then (if (wrap64 (t501 * (wrap64 (-t503)))) > (wrap64 ((shl .i64 1 (wrap64 (t497 - 1))) + t501)) then (some false) else (if t497 > 2 then (if 0 ≤ (wrap64 (t497 - 2)) then (if (wrap64 (t501 * (wrap64 ((wrap64 (-t503)) - 1)))) < (wrap64 ((shl .i64 1 (wrap64 (t497 - 2))) - t501)) then (if t501 > 0 then (if (wrap64 (t501 * (wrap64 (-t503)))) < (shl .i64 1 (wrap64 (t497 - 2))) then (some false) else (some true)) else (some true)) else (some true)) else (none)) else (some true))) else (none)) = some r := by rw [if_pos rfl] at H; exact H
              clear H
              have H := H1
              clear H1
              obtain ⟨ji115, hji115⟩ : ∃ j_ : Int, (wrap64 (t497 - 1)) = j_ := ⟨_, rfl⟩
              replace H : (if 0 ≤ (ji115) then (if (wrap64 (t501 * (wrap64 (-t503)))) > (wrap64 ((shl .i64 1 (ji115)) + t501)) then (some false) else (if t497 > 2 then (if 0 ≤ (wrap64 (t497 - 2)) then (if (wrap64 (t501 * (wrap64 ((wrap64 (-t503)) - 1)))) < (wrap64 ((shl .i64 1 (wrap64 (t497 - 2))) - t501)) then (if t501 > 0 then (if (wrap64 (t501 * (wrap64 (-t503)))) < (shl .i64 1 (wrap64 (t497 - 2))) then (some false) else (some true)) else (some true)) else (some true)) else (none)) else (some true))) else (none)) = some r := by first | (rw [hji115] at H; exact H) | (simp only [hji115] at H ⊢; exact H)
              (try rw [hji115] at A105)
              (try rw [hji115] at A106)
              (try rw [hji115] at A107)
              (try rw [hji115] at A111)
              (try rw [hji115] at A112)
              have hji115w : (IntKind.i64.wrap (t497 - 1)) = ji115 := (i64_w _).trans hji115
              by_cases c116 : 0 ≤ (ji115)
              ·rw [if_pos c116] at H
               have c116b0 := eq_true c116
               have c116b1 : decide (0 ≤ (ji115)) = true := decide_eq_true c116
               clear c116
               obtain ⟨ji117, hji117⟩ : ∃ j_ : Int, (shl .i64 1 (ji115)) = j_ := ⟨_, rfl⟩
               replace H : (if (wrap64 (t501 * (wrap64 (-t503)))) > (wrap64 ((ji117) + t501)) then (some false) else (if t497 > 2 then (if 0 ≤ (wrap64 (t497 - 2)) then (if (wrap64 (t501 * (wrap64 ((wrap64 (-t503)) - 1)))) < (wrap64 ((shl .i64 1 (wrap64 (t497 - 2))) - t501)) then (if t501 > 0 then (if (wrap64 (t501 * (wrap64 (-t503)))) < (shl .i64 1 (wrap64 (t497 - 2))) then (some false) else (some true)) else (some true)) else (some true)) else (none)) else (some true))) = some r := by first | (rw [hji117] at H; exact H) | (simp only [hji117] at H ⊢; exact H)
               (try rw [hji117] at A105)
               (try rw [hji117] at A106)
               (try rw [hji117] at A107)
               (try rw [hji117] at A111)
               (try rw [hji117] at A112)
               have hji117_ : (IntKind.i64.wrap (1 * 2 ^ min (ji115).toNat 64)) = ji117 := hji117
               have hji117z : (ji115) ≤ 64 → (IntKind.i64.wrap (1 * 2 ^ (ji115).toNat)) = ji117 := shl_small hji117
               have hji117u : (IntKind.i64.wrap (2 ^ min (ji115).toNat 64)) = ji117 := by have h_ := hji117_; rw [Int.one_mul] at h_; exact h_
               have hji117v : (ji115) ≤ 64 → (IntKind.i64.wrap (2 ^ (ji115).toNat)) = ji117 := fun hle_ => by have h_ := hji117z hle_; rw [Int.one_mul] at h_; exact h_
               have hji117y : (wrap64 (1 * 2 ^ min (ji115).toNat 64)) = ji117 := (i64_w _).symm.trans hji117_
               have hji117x : (ji115) ≤ 64 → (wrap64 (1 * 2 ^ (ji115).toNat)) = ji117 := fun h_ => (i64_w _).symm.trans (hji117z h_)
               by_cases c118 : (wrap64 (t501 * (wrap64 (-t503)))) > (wrap64 ((ji117) + t501))
               ·rw [if_pos c118] at H
                have c118b0 : decide ((wrap64 ((ji117) + t501)) < (wrap64 (t501 * (wrap64 (-t503))))) = true := decide_eq_true c118
                clear c118
                obtain rfl := Option.some.inj H
                exact absurd HT.out (by simp)
               ·rw [if_neg c118] at H
                have c118b0 : decide ((wrap64 ((ji117) + t501)) < (wrap64 (t501 * (wrap64 (-t503))))) = false := decide_eq_false c118
                clear c118
                by_cases c119 : t497 > 2
                ·rw [if_pos c119] at H
                 have c119b0 : decide (2 < t497) = true := decide_eq_true c119
                 clear c119
                 obtain ⟨ji120, hji120⟩ : ∃ j_ : Int, (wrap64 (t497 - 2)) = j_ := ⟨_, rfl⟩
                 replace H : (if 0 ≤ (ji120) then (if (wrap64 (t501 * (wrap64 ((wrap64 (-t503)) - 1)))) < (wrap64 ((shl .i64 1 (ji120)) - t501)) then (if t501 > 0 then (if (wrap64 (t501 * (wrap64 (-t503)))) < (shl .i64 1 (ji120)) then (some false) else (some true)) else (some true)) else (some true)) else (none)) = some r := by first | (rw [hji120] at H; exact H) | (simp only [hji120] at H ⊢; exact H)
                 (try rw [hji120] at A105)
                 (try rw [hji120] at A106)
                 (try rw [hji120] at A107)
                 (try rw [hji120] at A111)
                 (try rw [hji120] at A112)
                 have hji120w : (IntKind.i64.wrap (t497 - 2)) = ji120 := (i64_w _).trans hji120
                 by_cases c121 : 0 ≤ (ji120)
                 ·rw [if_pos c121] at H
                  have c121b0 := eq_true c121
                  have c121b1 : decide (0 ≤ (ji120)) = true := decide_eq_true c121
                  clear c121
                  obtain ⟨ji122, hji122⟩ : ∃ j_ : Int, (shl .i64 1 (ji120)) = j_ := ⟨_, rfl⟩
                  replace H : (if (wrap64 (t501 * (wrap64 ((wrap64 (-t503)) - 1)))) < (wrap64 ((ji122) - t501)) then (if t501 > 0 then (if (wrap64 (t501 * (wrap64 (-t503)))) < (ji122) then (some false) else (some true)) else (some true)) else (some true)) = some r := by first | (rw [hji122] at H; exact H) | (simp only [hji122] at H ⊢; exact H)
                  (try rw [hji122] at c118b0)
                  (try rw [hji122] at A105)
                  (try rw [hji122] at A106)
                  (try rw [hji122] at A107)
                  (try rw [hji122] at A111)
                  (try rw [hji122] at A112)
                  have hji122_ : (IntKind.i64.wrap (1 * 2 ^ min (ji120).toNat 64)) = ji122 := hji122
                  have hji122z : (ji120) ≤ 64 → (IntKind.i64.wrap (1 * 2 ^ (ji120).toNat)) = ji122 := shl_small hji122
                  have hji122u : (IntKind.i64.wrap (2 ^ min (ji120).toNat 64)) = ji122 := by have h_ := hji122_; rw [Int.one_mul] at h_; exact h_
                  have hji122v : (ji120) ≤ 64 → (IntKind.i64.wrap (2 ^ (ji120).toNat)) = ji122 := fun hle_ => by have h_ := hji122z hle_; rw [Int.one_mul] at h_; exact h_
                  have hji122y : (wrap64 (1 * 2 ^ min (ji120).toNat 64)) = ji122 := (i64_w _).symm.trans hji122_
                  have hji122x : (ji120) ≤ 64 → (wrap64 (1 * 2 ^ (ji120).toNat)) = ji122 := fun h_ => (i64_w _).symm.trans (hji122z h_)
                  by_cases c123 : (wrap64 (t501 * (wrap64 ((wrap64 (-t503)) - 1)))) < (wrap64 ((ji122) - t501))
                  ·rw [if_pos c123] at H
                   have c123b0 : decide ((wrap64 (t501 * (wrap64 ((wrap64 (-t503)) - 1)))) < (wrap64 ((ji122) - t501))) = true := decide_eq_true c123
                   clear c123
                   by_cases c124 : t501 > 0
                   ·rw [if_pos c124] at H
                    have c124b0 : decide (0 < t501) = true := decide_eq_true c124
                    clear c124
                    have c125b0 := eq_true (of_decide_eq_true (by first | (with_reducible assumption) | assumption) : 0 ≤ (ji120))
                    by_cases c126 : (wrap64 (t501 * (wrap64 (-t503)))) < (ji122)
                    ·rw [if_pos c126] at H
                     have c126b0 : decide ((wrap64 (t501 * (wrap64 (-t503)))) < (ji122)) = true := decide_eq_true c126
                     clear c126
                     obtain rfl := Option.some.inj H
                     exact absurd HT.out (by simp)
                    ·rw [if_neg c126] at H
                     have c126b0 : decide ((wrap64 (t501 * (wrap64 (-t503)))) < (ji122)) = false := decide_eq_false c126
                     clear c126
                     obtain rfl := Option.some.inj H
                     go_wp2_with (first | ((with_reducible refine gate_callee (f := 39) rfl ?_); refine goesL_ (some 266) rfl rfl Try.func39 (by kernel_rfl) rfl #[.slice A1 l1.length c1] rfl (by (try simp only [List.map_toArray, List.map_cons, List.map_nil]); first | done | rfl | (simp only [List.length_drop, List.length_take]; rfl)) ?_; (with_reducible refine (spec_DrawBitsNeeded.calls kj16 _ _ l1 t491 t494 t495 _ ?side1 ?side2 A105.out).mono ?_); (case side1 => repeat (first | exact (Kd.C_below HR1.out HB.out) | (with_reducible refine Kd.C_alloc ?_ _) | (with_reducible refine Kd.C_drewN ?_ _) | (with_reducible refine Kd.C_drew ?_))); (case side2 => exact HC1.out); rintro e w127 ⟨v492, rfl, ho0, hb⟩; refine ⟨_, rfl, ?_⟩; have n0_ := Aside0.mk (Kd.R_lower ho0 (below_size (by repeat (first | (with_reducible first | exact HB.out | apply below_alloc | apply pw_below_drewN | apply below_drew1 | refine below_set ?_ GE449.out) | exact HB.out)))); have n1_ := Aside0.mk (blk_below (g := gb449) (o := .cells #[.int .i64 t439, .bool t440] 44 (0, 0)) (by (with_reducible repeat (first | refine blk_drewN ?_ _ | refine blk_drew ?_ | refine blk_alloc ?_ _)); exact BK449.out) hb); have n2_ := Aside0.mk (below_step (by repeat (first | (with_reducible first | exact HB.out | apply below_alloc | apply pw_below_drewN | apply below_drew1 | refine below_set ?_ GE449.out) | exact HB.out)) hb); clear BK449; clear HB; have HO493 := n0_; have BK449 := n1_; have HB := n2_; clear n0_ n1_ n2_; (try clear hb); (try clear hb2); (try clear hk); (try clear hi); (try clear ho0)) | ((with_reducible refine gate_dst (N := 33) rfl ?_); (try (refine gate_guard (by rfl) ?_; dsimp only)); refine box_event ?hg (N := 33) ?hd (cs := #[.int .i64 0, .bool false]) (t := 44) ?hr ?_; (case hd => rfl); (case hg => rfl); (case hr => first | (go_simp; done) | (go_simp; rfl)); intro gb496 hg w128 hbox hb; have n0_ := Aside0.mk (Kd.R_below (by (with_reducible repeat (first | apply Kd.R_alloc | apply Kd.R_drewN | apply Kd.R_drew)); exact HO493.out) hb); have n1_ := Aside0.mk (blk_below (g := gb449) (o := .cells #[.int .i64 t439, .bool t440] 44 (0, 0)) (by (with_reducible repeat (first | refine blk_drewN ?_ _ | refine blk_drew ?_ | refine blk_alloc ?_ _)); exact BK449.out) hb); have n2_ := Aside0.mk (below_step (by repeat (first | (with_reducible first | exact HB.out | apply below_alloc | apply pw_below_drewN | apply below_drew1 | refine below_set ?_ GE449.out) | exact HB.out)) hb); have n3_ := Aside0.mk (hbox); have n4_ := Aside0.mk ((by rw [hg]; exact (below_size (by repeat (first | (with_reducible first | exact HB.out | apply below_alloc | apply pw_below_drewN | apply below_drew1 | refine below_set ?_ GE449.out) | exact HB.out))) : w.heap.size ≤ gb496)); have n5_ := Aside0.mk ((by rw [hg]; exact (below_size (by repeat (first | (with_reducible first | exact HB.out | apply below_alloc | apply pw_below_drewN | apply below_drew1 | refine below_set ?_ GE449.out) | exact HB.out))) : w.heap.size ≤ gb496)); have n6_ := Aside0.mk ((by rw [hg]; exact Nat.ne_of_lt (blk_lt (g := gb449) (o := .cells #[.int .i64 t439, .bool t440] 44 (0, 0)) (by (with_reducible repeat (first | refine blk_drewN ?_ _ | refine blk_drew ?_ | refine blk_alloc ?_ _)); exact BK449.out)) : gb449 ≠ gb496)); have n7_ := Aside0.mk ((by rw [hg]; exact Nat.ne_of_gt (blk_lt (g := gb449) (o := .cells #[.int .i64 t439, .bool t440] 44 (0, 0)) (by (with_reducible repeat (first | refine blk_drewN ?_ _ | refine blk_drew ?_ | refine blk_alloc ?_ _)); exact BK449.out)) : gb496 ≠ gb449)); clear HO493; clear BK449; clear HB; have HO493 := n0_; have BK449 := n1_; have HB := n2_; have BK496 := n3_; have GW496 := n4_; have GE496 := n5_; have NB449_496 := n6_; have NB496_449 := n7_; clear n0_ n1_ n2_ n3_ n4_ n5_ n6_ n7_; clear hb hbox hg; have hnb129 := NB496_449.out; have hnc129 := NB449_496.out; have hcz130_0 : w128.cell? ⟨gb496, 0, none⟩ = some (.int .i64 0) := (blk_cell BK496.out 0).trans rfl; have hcz130_1 : w128.cell? ⟨gb496, 1, none⟩ = some (.bool false) := (blk_cell BK496.out 1).trans rfl; have hfz130_0 := blk_frozen BK496.out 0; have hfz130_1 := blk_frozen BK496.out 1; obtain ⟨Ao131, co131, eo131⟩ := Kd.R_slice HO493.out; subst eo131) | ((with_reducible refine gate_callee (f := 38) rfl ?_); refine goesL_ (some 272) rfl rfl Try.func38 (by kernel_rfl) rfl #[.slice Ao131 t491.length co131, .agg #[.int .i64 t494, .bool t495]] rfl (by (try simp only [List.map_toArray, List.map_cons, List.map_nil]); first | done | rfl | (simp only [List.length_drop, List.length_take]; rfl)) ?_; (with_reducible refine (impl_BitsNeeded.calls kj16 _ _ t491 t494 t495 t497 true _ ?side1 ?side2 A106.out).mono ?_); (case side1 => refine (Kd.R_reads' (e := 3) (base := w.heap.size) (ok := fun k_ => True) (n := t491.length) (c := co131) ?_).2.2; exact (by (with_reducible repeat (first | apply Kd.R_alloc | apply Kd.R_drewN | apply Kd.R_drew)); exact (Kd.R_mono (Kd.R_far (p := ⟨gb496, 1, none⟩) (Kd.R_far (p := ⟨gb496, 0, none⟩) (Kd.R_types HO493.out BK496.out (by decide)) (fun _ hk => hk.2) (.int .i64 t494)) (fun _ hk => hk.2) (.bool t495)) (fun _ h_ => h_.1)))); (case side2 => exact (Kd.R_reads' HO493.out).2.1); rintro e w132 ⟨rfl, hb⟩; refine ⟨_, rfl, ?_⟩; have n0_ := Aside0.mk (Kd.R_below (by (with_reducible repeat (first | apply Kd.R_alloc | apply Kd.R_drewN | apply Kd.R_drew)); exact (Kd.R_mono (Kd.R_far (p := ⟨gb496, 1, none⟩) (Kd.R_far (p := ⟨gb496, 0, none⟩) (Kd.R_types HO493.out BK496.out (by decide)) (fun _ hk => hk.2) (.int .i64 t494)) (fun _ hk => hk.2) (.bool t495)) (fun _ h_ => h_.1))) hb); have n1_ := Aside0.mk (blk_below (g := gb449) (o := .cells #[.int .i64 t439, .bool t440] 44 (0, 0)) (by (with_reducible repeat (first | refine blk_drewN ?_ _ | refine blk_drew ?_ | refine blk_alloc ?_ _)); refine blk_far ?_ NB449_496.out _; (with_reducible repeat (first | refine blk_drewN ?_ _ | refine blk_drew ?_ | refine blk_alloc ?_ _)); refine blk_far ?_ NB449_496.out _; (with_reducible repeat (first | refine blk_drewN ?_ _ | refine blk_drew ?_ | refine blk_alloc ?_ _)); exact BK449.out) hb); have n2_ := Aside0.mk (blk_below (g := gb496) (o := .cells #[.int .i64 t494, .bool t495] 44 (0, 0)) (by (with_reducible repeat (first | refine blk_drewN ?_ _ | refine blk_drew ?_ | refine blk_alloc ?_ _)); refine blk_put (cs := #[.int .i64 t494, .bool false]) ?_ 1 _ rfl; (with_reducible repeat (first | refine blk_drewN ?_ _ | refine blk_drew ?_ | refine blk_alloc ?_ _)); refine blk_put (cs := #[.int .i64 0, .bool false]) ?_ 0 _ rfl; (with_reducible repeat (first | refine blk_drewN ?_ _ | refine blk_drew ?_ | refine blk_alloc ?_ _)); exact BK496.out) hb); have n3_ := Aside0.mk (below_step (by repeat (first | (with_reducible first | exact HB.out | apply below_alloc | apply pw_below_drewN | apply below_drew1 | refine below_set ?_ GE449.out | refine below_set ?_ GE496.out) | exact HB.out)) hb); clear HO493; clear BK449; clear BK496; clear HB; have HO493 := n0_; have BK449 := n1_; have BK496 := n2_; have HB := n3_; clear n0_ n1_ n2_ n3_; (try clear hb); (try clear hb2); (try clear hk); (try clear hi); have hcz133_0 : w132.cell? ⟨gb496, 0, none⟩ = some (.int .i64 t494) := (blk_cell BK496.out 0).trans rfl; have hcz133_1 : w132.cell? ⟨gb496, 1, none⟩ = some (.bool t495) := (blk_cell BK496.out 1).trans rfl; have hfz133_0 := blk_frozen BK496.out 0; have hfz133_1 := blk_frozen BK496.out 1) | ((with_reducible refine gate_callee (f := 40) rfl ?_); refine goesL_ (some 278) rfl rfl Try.func40 (by kernel_rfl) rfl #[.slice Ao131 t491.length co131, .agg #[.int .i64 t494, .bool t495]] rfl (by (try simp only [List.map_toArray, List.map_cons, List.map_nil]); first | done | rfl | (simp only [List.length_drop, List.length_take]; rfl)) ?_; (with_reducible refine (spec_BitsNeeded.calls kj16 _ _ t491 t494 t495 t499 t500 _ ?side1 ?side2 A107.out).mono ?_); (case side1 => repeat (first | exact (Kd.R_reads' HO493.out).2.2 | (with_reducible refine Kd.C_alloc ?_ _) | (with_reducible refine Kd.C_drewN ?_ _) | (with_reducible refine Kd.C_drew ?_))); (case side2 => exact (Kd.R_reads' HO493.out).2.1); rintro e w134 ⟨rfl, hb⟩; refine ⟨_, rfl, ?_⟩; have n0_ := Aside0.mk (Kd.R_below (by (with_reducible repeat (first | apply Kd.R_alloc | apply Kd.R_drewN | apply Kd.R_drew)); exact HO493.out) hb); have n1_ := Aside0.mk (blk_below (g := gb449) (o := .cells #[.int .i64 t439, .bool t440] 44 (0, 0)) (by (with_reducible repeat (first | refine blk_drewN ?_ _ | refine blk_drew ?_ | refine blk_alloc ?_ _)); exact BK449.out) hb); have n2_ := Aside0.mk (blk_below (g := gb496) (o := .cells #[.int .i64 t494, .bool t495] 44 (0, 0)) (by (with_reducible repeat (first | refine blk_drewN ?_ _ | refine blk_drew ?_ | refine blk_alloc ?_ _)); exact BK496.out) hb); have n3_ := Aside0.mk (below_step (by repeat (first | (with_reducible first | exact HB.out | apply below_alloc | apply pw_below_drewN | apply below_drew1 | refine below_set ?_ GE449.out | refine below_set ?_ GE496.out) | exact HB.out)) hb); clear HO493; clear BK449; clear BK496; clear HB; have HO493 := n0_; have BK449 := n1_; have BK496 := n2_; have HB := n3_; clear n0_ n1_ n2_ n3_; (try clear hb); (try clear hb2); (try clear hk); (try clear hi)) | ((with_reducible refine gate_callee (f := 41) rfl ?_); refine goesL_ (some 292) rfl rfl Try.func41 (by kernel_rfl) rfl #[.slice Ao131 t491.length co131] rfl (by (try simp only [List.map_toArray, List.map_cons, List.map_nil]); first | done | rfl | (simp only [List.length_drop, List.length_take]; rfl)) ?_; (with_reducible refine (impl_SizeGain.calls kj16 _ _ t491 t501 true _ ?side1 ?side2 A111.out).mono ?_); (case side1 => repeat (first | exact (Kd.R_reads' HO493.out).2.2 | (with_reducible refine Kd.C_alloc ?_ _) | (with_reducible refine Kd.C_drewN ?_ _) | (with_reducible refine Kd.C_drew ?_))); (case side2 => exact (Kd.R_reads' HO493.out).2.1); rintro e w135 ⟨rfl, hb⟩; refine ⟨_, rfl, ?_⟩; have n0_ := Aside0.mk (Kd.R_below (by (with_reducible repeat (first | apply Kd.R_alloc | apply Kd.R_drewN | apply Kd.R_drew)); exact HO493.out) hb); have n1_ := Aside0.mk (blk_below (g := gb449) (o := .cells #[.int .i64 t439, .bool t440] 44 (0, 0)) (by (with_reducible repeat (first | refine blk_drewN ?_ _ | refine blk_drew ?_ | refine blk_alloc ?_ _)); exact BK449.out) hb); have n2_ := Aside0.mk (blk_below (g := gb496) (o := .cells #[.int .i64 t494, .bool t495] 44 (0, 0)) (by (with_reducible repeat (first | refine blk_drewN ?_ _ | refine blk_drew ?_ | refine blk_alloc ?_ _)); exact BK496.out) hb); have n3_ := Aside0.mk (below_step (by repeat (first | (with_reducible first | exact HB.out | apply below_alloc | apply pw_below_drewN | apply below_drew1 | refine below_set ?_ GE449.out | refine below_set ?_ GE496.out) | exact HB.out)) hb); clear HO493; clear BK449; clear BK496; clear HB; have HO493 := n0_; have BK449 := n1_; have BK496 := n2_; have HB := n3_; clear n0_ n1_ n2_ n3_; (try clear hb); (try clear hb2); (try clear hk); (try clear hi); have hcz136_0 : w135.cell? ⟨gb496, 0, none⟩ = some (.int .i64 t494) := (blk_cell BK496.out 0).trans rfl; have hcz136_1 : w135.cell? ⟨gb496, 1, none⟩ = some (.bool t495) := (blk_cell BK496.out 1).trans rfl; have hfz136_0 := blk_frozen BK496.out 0; have hfz136_1 := blk_frozen BK496.out 1) | ((with_reducible refine gate_callee (f := 34) rfl ?_); refine goesL_ (some 297) rfl rfl Try.func34 (by kernel_rfl) rfl #[.agg #[.int .i64 t494, .bool t495]] rfl (by (try simp only [List.map_toArray, List.map_cons, List.map_nil]); first | done | rfl | (simp only [List.length_drop, List.length_take]; rfl)) ?_; (with_reducible refine (impl_RangeOf.calls t494 t495 t503 t504 true _ A112.out).mono ?_); rintro e w137 ⟨rfl, hb⟩; refine ⟨_, rfl, ?_⟩; have n0_ := Aside0.mk (Kd.R_below (by (with_reducible repeat (first | apply Kd.R_alloc | apply Kd.R_drewN | apply Kd.R_drew)); exact HO493.out) hb); have n1_ := Aside0.mk (blk_below (g := gb449) (o := .cells #[.int .i64 t439, .bool t440] 44 (0, 0)) (by (with_reducible repeat (first | refine blk_drewN ?_ _ | refine blk_drew ?_ | refine blk_alloc ?_ _)); exact BK449.out) hb); have n2_ := Aside0.mk (blk_below (g := gb496) (o := .cells #[.int .i64 t494, .bool t495] 44 (0, 0)) (by (with_reducible repeat (first | refine blk_drewN ?_ _ | refine blk_drew ?_ | refine blk_alloc ?_ _)); exact BK496.out) hb); have n3_ := Aside0.mk (below_step (by repeat (first | (with_reducible first | exact HB.out | apply below_alloc | apply pw_below_drewN | apply below_drew1 | refine below_set ?_ GE449.out | refine below_set ?_ GE496.out) | exact HB.out)) hb); clear HO493; clear BK449; clear BK496; clear HB; have HO493 := n0_; have BK449 := n1_; have BK496 := n2_; have HB := n3_; clear n0_ n1_ n2_ n3_; (try clear hb); (try clear hb2); (try clear hk); (try clear hi)))
                     go_ret
                     exact ⟨by first | rfl | (simp [errW_none, errW_some] <;> rfl) | (simp only [← hji115, ← hji117, ← hji120, ← hji122]; first | rfl | (simp [errW_none, errW_some] <;> rfl)) | (simp [*, errW_none, errW_some] <;> rfl), by repeat (first | (with_reducible first | exact HB.out | apply below_alloc | apply pw_below_drewN | apply below_drew1 | refine below_set ?_ GE449.out | refine below_set ?_ GE496.out) | exact HB.out)⟩
                   ·rw [if_neg c124] at H
                    have c124b0 : decide (0 < t501) = false := decide_eq_false c124
                    clear c124
                    obtain rfl := Option.some.inj H
                    go_wp2_with (first | ((with_reducible refine gate_callee (f := 39) rfl ?_); refine goesL_ (some 266) rfl rfl Try.func39 (by kernel_rfl) rfl #[.slice A1 l1.length c1] rfl (by (try simp only [List.map_toArray, List.map_cons, List.map_nil]); first | done | rfl | (simp only [List.length_drop, List.length_take]; rfl)) ?_; (with_reducible refine (spec_DrawBitsNeeded.calls kj16 _ _ l1 t491 t494 t495 _ ?side1 ?side2 A105.out).mono ?_); (case side1 => repeat (first | exact (Kd.C_below HR1.out HB.out) | (with_reducible refine Kd.C_alloc ?_ _) | (with_reducible refine Kd.C_drewN ?_ _) | (with_reducible refine Kd.C_drew ?_))); (case side2 => exact HC1.out); rintro e w138 ⟨v492, rfl, ho0, hb⟩; refine ⟨_, rfl, ?_⟩; have n0_ := Aside0.mk (Kd.R_lower ho0 (below_size (by repeat (first | (with_reducible first | exact HB.out | apply below_alloc | apply pw_below_drewN | apply below_drew1 | refine below_set ?_ GE449.out) | exact HB.out)))); have n1_ := Aside0.mk (blk_below (g := gb449) (o := .cells #[.int .i64 t439, .bool t440] 44 (0, 0)) (by (with_reducible repeat (first | refine blk_drewN ?_ _ | refine blk_drew ?_ | refine blk_alloc ?_ _)); exact BK449.out) hb); have n2_ := Aside0.mk (below_step (by repeat (first | (with_reducible first | exact HB.out | apply below_alloc | apply pw_below_drewN | apply below_drew1 | refine below_set ?_ GE449.out) | exact HB.out)) hb); clear BK449; clear HB; have HO493 := n0_; have BK449 := n1_; have HB := n2_; clear n0_ n1_ n2_; (try clear hb); (try clear hb2); (try clear hk); (try clear hi); (try clear ho0)) | ((with_reducible refine gate_dst (N := 33) rfl ?_); (try (refine gate_guard (by rfl) ?_; dsimp only)); refine box_event ?hg (N := 33) ?hd (cs := #[.int .i64 0, .bool false]) (t := 44) ?hr ?_; (case hd => rfl); (case hg => rfl); (case hr => first | (go_simp; done) | (go_simp; rfl)); intro gb496 hg w139 hbox hb; have n0_ := Aside0.mk (Kd.R_below (by (with_reducible repeat (first | apply Kd.R_alloc | apply Kd.R_drewN | apply Kd.R_drew)); exact HO493.out) hb); have n1_ := Aside0.mk (blk_below (g := gb449) (o := .cells #[.int .i64 t439, .bool t440] 44 (0, 0)) (by (with_reducible repeat (first | refine blk_drewN ?_ _ | refine blk_drew ?_ | refine blk_alloc ?_ _)); exact BK449.out) hb); have n2_ := Aside0.mk (below_step (by repeat (first | (with_reducible first | exact HB.out | apply below_alloc | apply pw_below_drewN | apply below_drew1 | refine below_set ?_ GE449.out) | exact HB.out)) hb); have n3_ := Aside0.mk (hbox); have n4_ := Aside0.mk ((by rw [hg]; exact (below_size (by repeat (first | (with_reducible first | exact HB.out | apply below_alloc | apply pw_below_drewN | apply below_drew1 | refine below_set ?_ GE449.out) | exact HB.out))) : w.heap.size ≤ gb496)); have n5_ := Aside0.mk ((by rw [hg]; exact (below_size (by repeat (first | (with_reducible first | exact HB.out | apply below_alloc | apply pw_below_drewN | apply below_drew1 | refine below_set ?_ GE449.out) | exact HB.out))) : w.heap.size ≤ gb496)); have n6_ := Aside0.mk ((by rw [hg]; exact Nat.ne_of_lt (blk_lt (g := gb449) (o := .cells #[.int .i64 t439, .bool t440] 44 (0, 0)) (by (with_reducible repeat (first | refine blk_drewN ?_ _ | refine blk_drew ?_ | refine blk_alloc ?_ _)); exact BK449.out)) : gb449 ≠ gb496)); have n7_ := Aside0.mk ((by rw [hg]; exact Nat.ne_of_gt (blk_lt (g := gb449) (o := .cells #[.int .i64 t439, .bool t440] 44 (0, 0)) (by (with_reducible repeat (first | refine blk_drewN ?_ _ | refine blk_drew ?_ | refine blk_alloc ?_ _)); exact BK449.out)) : gb496 ≠ gb449)); clear HO493; clear BK449; clear HB; have HO493 := n0_; have BK449 := n1_; have HB := n2_; have BK496 := n3_; have GW496 := n4_; have GE496 := n5_; have NB449_496 := n6_; have NB496_449 := n7_; clear n0_ n1_ n2_ n3_ n4_ n5_ n6_ n7_; clear hb hbox hg; have hnb140 := NB496_449.out; have hnc140 := NB449_496.out; have hcz141_0 : w139.cell? ⟨gb496, 0, none⟩ = some (.int .i64 0) := (blk_cell BK496.out 0).trans rfl; have hcz141_1 : w139.cell? ⟨gb496, 1, none⟩ = some (.bool false) := (blk_cell BK496.out 1).trans rfl; have hfz141_0 := blk_frozen BK496.out 0; have hfz141_1 := blk_frozen BK496.out 1; obtain ⟨Ao142, co142, eo142⟩ := Kd.R_slice HO493.out; subst eo142) | ((with_reducible refine gate_callee (f := 38) rfl ?_); refine goesL_ (some 272) rfl rfl Try.func38 (by kernel_rfl) rfl #[.slice Ao142 t491.length co142, .agg #[.int .i64 t494, .bool t495]] rfl (by (try simp only [List.map_toArray, List.map_cons, List.map_nil]); first | done | rfl | (simp only [List.length_drop, List.length_take]; rfl)) ?_; (with_reducible refine (impl_BitsNeeded.calls kj16 _ _ t491 t494 t495 t497 true _ ?side1 ?side2 A106.out).mono ?_); (case side1 => refine (Kd.R_reads' (e := 3) (base := w.heap.size) (ok := fun k_ => True) (n := t491.length) (c := co142) ?_).2.2; exact (by (with_reducible repeat (first | apply Kd.R_alloc | apply Kd.R_drewN | apply Kd.R_drew)); exact (Kd.R_mono (Kd.R_far (p := ⟨gb496, 1, none⟩) (Kd.R_far (p := ⟨gb496, 0, none⟩) (Kd.R_types HO493.out BK496.out (by decide)) (fun _ hk => hk.2) (.int .i64 t494)) (fun _ hk => hk.2) (.bool t495)) (fun _ h_ => h_.1)))); (case side2 => exact (Kd.R_reads' HO493.out).2.1); rintro e w143 ⟨rfl, hb⟩; refine ⟨_, rfl, ?_⟩; have n0_ := Aside0.mk (Kd.R_below (by (with_reducible repeat (first | apply Kd.R_alloc | apply Kd.R_drewN | apply Kd.R_drew)); exact (Kd.R_mono (Kd.R_far (p := ⟨gb496, 1, none⟩) (Kd.R_far (p := ⟨gb496, 0, none⟩) (Kd.R_types HO493.out BK496.out (by decide)) (fun _ hk => hk.2) (.int .i64 t494)) (fun _ hk => hk.2) (.bool t495)) (fun _ h_ => h_.1))) hb); have n1_ := Aside0.mk (blk_below (g := gb449) (o := .cells #[.int .i64 t439, .bool t440] 44 (0, 0)) (by (with_reducible repeat (first | refine blk_drewN ?_ _ | refine blk_drew ?_ | refine blk_alloc ?_ _)); refine blk_far ?_ NB449_496.out _; (with_reducible repeat (first | refine blk_drewN ?_ _ | refine blk_drew ?_ | refine blk_alloc ?_ _)); refine blk_far ?_ NB449_496.out _; (with_reducible repeat (first | refine blk_drewN ?_ _ | refine blk_drew ?_ | refine blk_alloc ?_ _)); exact BK449.out) hb); have n2_ := Aside0.mk (blk_below (g := gb496) (o := .cells #[.int .i64 t494, .bool t495] 44 (0, 0)) (by (with_reducible repeat (first | refine blk_drewN ?_ _ | refine blk_drew ?_ | refine blk_alloc ?_ _)); refine blk_put (cs := #[.int .i64 t494, .bool false]) ?_ 1 _ rfl; (with_reducible repeat (first | refine blk_drewN ?_ _ | refine blk_drew ?_ | refine blk_alloc ?_ _)); refine blk_put (cs := #[.int .i64 0, .bool false]) ?_ 0 _ rfl; (with_reducible repeat (first | refine blk_drewN ?_ _ | refine blk_drew ?_ | refine blk_alloc ?_ _)); exact BK496.out) hb); have n3_ := Aside0.mk (below_step (by repeat (first | (with_reducible first | exact HB.out | apply below_alloc | apply pw_below_drewN | apply below_drew1 | refine below_set ?_ GE449.out | refine below_set ?_ GE496.out) | exact HB.out)) hb); clear HO493; clear BK449; clear BK496; clear HB; have HO493 := n0_; have BK449 := n1_; have BK496 := n2_; have HB := n3_; clear n0_ n1_ n2_ n3_; (try clear hb); (try clear hb2); (try clear hk); (try clear hi); have hcz144_0 : w143.cell? ⟨gb496, 0, none⟩ = some (.int .i64 t494) := (blk_cell BK496.out 0).trans rfl; have hcz144_1 : w143.cell? ⟨gb496, 1, none⟩ = some (.bool t495) := (blk_cell BK496.out 1).trans rfl; have hfz144_0 := blk_frozen BK496.out 0; have hfz144_1 := blk_frozen BK496.out 1) | ((with_reducible refine gate_callee (f := 40) rfl ?_); refine goesL_ (some 278) rfl rfl Try.func40 (by kernel_rfl) rfl #[.slice Ao142 t491.length co142, .agg #[.int .i64 t494, .bool t495]] rfl (by (try simp only [List.map_toArray, List.map_cons, List.map_nil]); first | done | rfl | (simp only [List.length_drop, List.length_take]; rfl)) ?_; (with_reducible refine (spec_BitsNeeded.calls kj16 _ _ t491 t494 t495 t499 t500 _ ?side1 ?side2 A107.out).mono ?_); (case side1 => repeat (first | exact (Kd.R_reads' HO493.out).2.2 | (with_reducible refine Kd.C_alloc ?_ _) | (with_reducible refine Kd.C_drewN ?_ _) | (with_reducible refine Kd.C_drew ?_))); (case side2 => exact (Kd.R_reads' HO493.out).2.1); rintro e w145 ⟨rfl, hb⟩; refine ⟨_, rfl, ?_⟩; have n0_ := Aside0.mk (Kd.R_below (by (with_reducible repeat (first | apply Kd.R_alloc | apply Kd.R_drewN | apply Kd.R_drew)); exact HO493.out) hb); have n1_ := Aside0.mk (blk_below (g := gb449) (o := .cells #[.int .i64 t439, .bool t440] 44 (0, 0)) (by (with_reducible repeat (first | refine blk_drewN ?_ _ | refine blk_drew ?_ | refine blk_alloc ?_ _)); exact BK449.out) hb); have n2_ := Aside0.mk (blk_below (g := gb496) (o := .cells #[.int .i64 t494, .bool t495] 44 (0, 0)) (by (with_reducible repeat (first | refine blk_drewN ?_ _ | refine blk_drew ?_ | refine blk_alloc ?_ _)); exact BK496.out) hb); have n3_ := Aside0.mk (below_step (by repeat (first | (with_reducible first | exact HB.out | apply below_alloc | apply pw_below_drewN | apply below_drew1 | refine below_set ?_ GE449.out | refine below_set ?_ GE496.out) | exact HB.out)) hb); clear HO493; clear BK449; clear BK496; clear HB; have HO493 := n0_; have BK449 := n1_; have BK496 := n2_; have HB := n3_; clear n0_ n1_ n2_ n3_; (try clear hb); (try clear hb2); (try clear hk); (try clear hi)) | ((with_reducible refine gate_callee (f := 41) rfl ?_); refine goesL_ (some 292) rfl rfl Try.func41 (by kernel_rfl) rfl #[.slice Ao142 t491.length co142] rfl (by (try simp only [List.map_toArray, List.map_cons, List.map_nil]); first | done | rfl | (simp only [List.length_drop, List.length_take]; rfl)) ?_; (with_reducible refine (impl_SizeGain.calls kj16 _ _ t491 t501 true _ ?side1 ?side2 A111.out).mono ?_); (case side1 => repeat (first | exact (Kd.R_reads' HO493.out).2.2 | (with_reducible refine Kd.C_alloc ?_ _) | (with_reducible refine Kd.C_drewN ?_ _) | (with_reducible refine Kd.C_drew ?_))); (case side2 => exact (Kd.R_reads' HO493.out).2.1); rintro e w146 ⟨rfl, hb⟩; refine ⟨_, rfl, ?_⟩; have n0_ := Aside0.mk (Kd.R_below (by (with_reducible repeat (first | apply Kd.R_alloc | apply Kd.R_drewN | apply Kd.R_drew)); exact HO493.out) hb); have n1_ := Aside0.mk (blk_below (g := gb449) (o := .cells #[.int .i64 t439, .bool t440] 44 (0, 0)) (by (with_reducible repeat (first | refine blk_drewN ?_ _ | refine blk_drew ?_ | refine blk_alloc ?_ _)); exact BK449.out) hb); have n2_ := Aside0.mk (blk_below (g := gb496) (o := .cells #[.int .i64 t494, .bool t495] 44 (0, 0)) (by (with_reducible repeat (first | refine blk_drewN ?_ _ | refine blk_drew ?_ | refine blk_alloc ?_ _)); exact BK496.out) hb); have n3_ := Aside0.mk (below_step (by repeat (first | (with_reducible first | exact HB.out | apply below_alloc | apply pw_below_drewN | apply below_drew1 | refine below_set ?_ GE449.out | refine below_set ?_ GE496.out) | exact HB.out)) hb); clear HO493; clear BK449; clear BK496; clear HB; have HO493 := n0_; have BK449 := n1_; have BK496 := n2_; have HB := n3_; clear n0_ n1_ n2_ n3_; (try clear hb); (try clear hb2); (try clear hk); (try clear hi); have hcz147_0 : w146.cell? ⟨gb496, 0, none⟩ = some (.int .i64 t494) := (blk_cell BK496.out 0).trans rfl; have hcz147_1 : w146.cell? ⟨gb496, 1, none⟩ = some (.bool t495) := (blk_cell BK496.out 1).trans rfl; have hfz147_0 := blk_frozen BK496.out 0; have hfz147_1 := blk_frozen BK496.out 1) | ((with_reducible refine gate_callee (f := 34) rfl ?_); refine goesL_ (some 297) rfl rfl Try.func34 (by kernel_rfl) rfl #[.agg #[.int .i64 t494, .bool t495]] rfl (by (try simp only [List.map_toArray, List.map_cons, List.map_nil]); first | done | rfl | (simp only [List.length_drop, List.length_take]; rfl)) ?_; (with_reducible refine (impl_RangeOf.calls t494 t495 t503 t504 true _ A112.out).mono ?_); rintro e w148 ⟨rfl, hb⟩; refine ⟨_, rfl, ?_⟩; have n0_ := Aside0.mk (Kd.R_below (by (with_reducible repeat (first | apply Kd.R_alloc | apply Kd.R_drewN | apply Kd.R_drew)); exact HO493.out) hb); have n1_ := Aside0.mk (blk_below (g := gb449) (o := .cells #[.int .i64 t439, .bool t440] 44 (0, 0)) (by (with_reducible repeat (first | refine blk_drewN ?_ _ | refine blk_drew ?_ | refine blk_alloc ?_ _)); exact BK449.out) hb); have n2_ := Aside0.mk (blk_below (g := gb496) (o := .cells #[.int .i64 t494, .bool t495] 44 (0, 0)) (by (with_reducible repeat (first | refine blk_drewN ?_ _ | refine blk_drew ?_ | refine blk_alloc ?_ _)); exact BK496.out) hb); have n3_ := Aside0.mk (below_step (by repeat (first | (with_reducible first | exact HB.out | apply below_alloc | apply pw_below_drewN | apply below_drew1 | refine below_set ?_ GE449.out | refine below_set ?_ GE496.out) | exact HB.out)) hb); clear HO493; clear BK449; clear BK496; clear HB; have HO493 := n0_; have BK449 := n1_; have BK496 := n2_; have HB := n3_; clear n0_ n1_ n2_ n3_; (try clear hb); (try clear hb2); (try clear hk); (try clear hi)))
                    go_ret
                    exact ⟨by first | rfl | (simp [errW_none, errW_some] <;> rfl) | (simp only [← hji115, ← hji117, ← hji120, ← hji122]; first | rfl | (simp [errW_none, errW_some] <;> rfl)) | (simp [*, errW_none, errW_some] <;> rfl), by repeat (first | (with_reducible first | exact HB.out | apply below_alloc | apply pw_below_drewN | apply below_drew1 | refine below_set ?_ GE449.out | refine below_set ?_ GE496.out) | exact HB.out)⟩
                  ·rw [if_neg c123] at H
                   have c123b0 : decide ((wrap64 (t501 * (wrap64 ((wrap64 (-t503)) - 1)))) < (wrap64 ((ji122) - t501))) = false := decide_eq_false c123
                   clear c123
                   obtain rfl := Option.some.inj H
                   go_wp2_with (first | ((with_reducible refine gate_callee (f := 39) rfl ?_); refine goesL_ (some 266) rfl rfl Try.func39 (by kernel_rfl) rfl #[.slice A1 l1.length c1] rfl (by (try simp only [List.map_toArray, List.map_cons, List.map_nil]); first | done | rfl | (simp only [List.length_drop, List.length_take]; rfl)) ?_; (with_reducible refine (spec_DrawBitsNeeded.calls kj16 _ _ l1 t491 t494 t495 _ ?side1 ?side2 A105.out).mono ?_); (case side1 => repeat (first | exact (Kd.C_below HR1.out HB.out) | (with_reducible refine Kd.C_alloc ?_ _) | (with_reducible refine Kd.C_drewN ?_ _) | (with_reducible refine Kd.C_drew ?_))); (case side2 => exact HC1.out); rintro e w149 ⟨v492, rfl, ho0, hb⟩; refine ⟨_, rfl, ?_⟩; have n0_ := Aside0.mk (Kd.R_lower ho0 (below_size (by repeat (first | (with_reducible first | exact HB.out | apply below_alloc | apply pw_below_drewN | apply below_drew1 | refine below_set ?_ GE449.out) | exact HB.out)))); have n1_ := Aside0.mk (blk_below (g := gb449) (o := .cells #[.int .i64 t439, .bool t440] 44 (0, 0)) (by (with_reducible repeat (first | refine blk_drewN ?_ _ | refine blk_drew ?_ | refine blk_alloc ?_ _)); exact BK449.out) hb); have n2_ := Aside0.mk (below_step (by repeat (first | (with_reducible first | exact HB.out | apply below_alloc | apply pw_below_drewN | apply below_drew1 | refine below_set ?_ GE449.out) | exact HB.out)) hb); clear BK449; clear HB; have HO493 := n0_; have BK449 := n1_; have HB := n2_; clear n0_ n1_ n2_; (try clear hb); (try clear hb2); (try clear hk); (try clear hi); (try clear ho0)) | ((with_reducible refine gate_dst (N := 33) rfl ?_); (try (refine gate_guard (by rfl) ?_; dsimp only)); refine box_event ?hg (N := 33) ?hd (cs := #[.int .i64 0, .bool false]) (t := 44) ?hr ?_; (case hd => rfl); (case hg => rfl); (case hr => first | (go_simp; done) | (go_simp; rfl)); intro gb496 hg w150 hbox hb; have n0_ := Aside0.mk (Kd.R_below (by (with_reducible repeat (first | apply Kd.R_alloc | apply Kd.R_drewN | apply Kd.R_drew)); exact HO493.out) hb); have n1_ := Aside0.mk (blk_below (g := gb449) (o := .cells #[.int .i64 t439, .bool t440] 44 (0, 0)) (by (with_reducible repeat (first | refine blk_drewN ?_ _ | refine blk_drew ?_ | refine blk_alloc ?_ _)); exact BK449.out) hb); have n2_ := Aside0.mk (below_step (by repeat (first | (with_reducible first | exact HB.out | apply below_alloc | apply pw_below_drewN | apply below_drew1 | refine below_set ?_ GE449.out) | exact HB.out)) hb); have n3_ := Aside0.mk (hbox); have n4_ := Aside0.mk ((by rw [hg]; exact (below_size (by repeat (first | (with_reducible first | exact HB.out | apply below_alloc | apply pw_below_drewN | apply below_drew1 | refine below_set ?_ GE449.out) | exact HB.out))) : w.heap.size ≤ gb496)); have n5_ := Aside0.mk ((by rw [hg]; exact (below_size (by repeat (first | (with_reducible first | exact HB.out | apply below_alloc | apply pw_below_drewN | apply below_drew1 | refine below_set ?_ GE449.out) | exact HB.out))) : w.heap.size ≤ gb496)); have n6_ := Aside0.mk ((by rw [hg]; exact Nat.ne_of_lt (blk_lt (g := gb449) (o := .cells #[.int .i64 t439, .bool t440] 44 (0, 0)) (by (with_reducible repeat (first | refine blk_drewN ?_ _ | refine blk_drew ?_ | refine blk_alloc ?_ _)); exact BK449.out)) : gb449 ≠ gb496)); have n7_ := Aside0.mk ((by rw [hg]; exact Nat.ne_of_gt (blk_lt (g := gb449) (o := .cells #[.int .i64 t439, .bool t440] 44 (0, 0)) (by (with_reducible repeat (first | refine blk_drewN ?_ _ | refine blk_drew ?_ | refine blk_alloc ?_ _)); exact BK449.out)) : gb496 ≠ gb449)); clear HO493; clear BK449; clear HB; have HO493 := n0_; have BK449 := n1_; have HB := n2_; have BK496 := n3_; have GW496 := n4_; have GE496 := n5_; have NB449_496 := n6_; have NB496_449 := n7_; clear n0_ n1_ n2_ n3_ n4_ n5_ n6_ n7_; clear hb hbox hg; have hnb151 := NB496_449.out; have hnc151 := NB449_496.out; have hcz152_0 : w150.cell? ⟨gb496, 0, none⟩ = some (.int .i64 0) := (blk_cell BK496.out 0).trans rfl; have hcz152_1 : w150.cell? ⟨gb496, 1, none⟩ = some (.bool false) := (blk_cell BK496.out 1).trans rfl; have hfz152_0 := blk_frozen BK496.out 0; have hfz152_1 := blk_frozen BK496.out 1; obtain ⟨Ao153, co153, eo153⟩ := Kd.R_slice HO493.out; subst eo153) | ((with_reducible refine gate_callee (f := 38) rfl ?_); refine goesL_ (some 272) rfl rfl Try.func38 (by kernel_rfl) rfl #[.slice Ao153 t491.length co153, .agg #[.int .i64 t494, .bool t495]] rfl (by (try simp only [List.map_toArray, List.map_cons, List.map_nil]); first | done | rfl | (simp only [List.length_drop, List.length_take]; rfl)) ?_; (with_reducible refine (impl_BitsNeeded.calls kj16 _ _ t491 t494 t495 t497 true _ ?side1 ?side2 A106.out).mono ?_); (case side1 => refine (Kd.R_reads' (e := 3) (base := w.heap.size) (ok := fun k_ => True) (n := t491.length) (c := co153) ?_).2.2; exact (by (with_reducible repeat (first | apply Kd.R_alloc | apply Kd.R_drewN | apply Kd.R_drew)); exact (Kd.R_mono (Kd.R_far (p := ⟨gb496, 1, none⟩) (Kd.R_far (p := ⟨gb496, 0, none⟩) (Kd.R_types HO493.out BK496.out (by decide)) (fun _ hk => hk.2) (.int .i64 t494)) (fun _ hk => hk.2) (.bool t495)) (fun _ h_ => h_.1)))); (case side2 => exact (Kd.R_reads' HO493.out).2.1); rintro e w154 ⟨rfl, hb⟩; refine ⟨_, rfl, ?_⟩; have n0_ := Aside0.mk (Kd.R_below (by (with_reducible repeat (first | apply Kd.R_alloc | apply Kd.R_drewN | apply Kd.R_drew)); exact (Kd.R_mono (Kd.R_far (p := ⟨gb496, 1, none⟩) (Kd.R_far (p := ⟨gb496, 0, none⟩) (Kd.R_types HO493.out BK496.out (by decide)) (fun _ hk => hk.2) (.int .i64 t494)) (fun _ hk => hk.2) (.bool t495)) (fun _ h_ => h_.1))) hb); have n1_ := Aside0.mk (blk_below (g := gb449) (o := .cells #[.int .i64 t439, .bool t440] 44 (0, 0)) (by (with_reducible repeat (first | refine blk_drewN ?_ _ | refine blk_drew ?_ | refine blk_alloc ?_ _)); refine blk_far ?_ NB449_496.out _; (with_reducible repeat (first | refine blk_drewN ?_ _ | refine blk_drew ?_ | refine blk_alloc ?_ _)); refine blk_far ?_ NB449_496.out _; (with_reducible repeat (first | refine blk_drewN ?_ _ | refine blk_drew ?_ | refine blk_alloc ?_ _)); exact BK449.out) hb); have n2_ := Aside0.mk (blk_below (g := gb496) (o := .cells #[.int .i64 t494, .bool t495] 44 (0, 0)) (by (with_reducible repeat (first | refine blk_drewN ?_ _ | refine blk_drew ?_ | refine blk_alloc ?_ _)); refine blk_put (cs := #[.int .i64 t494, .bool false]) ?_ 1 _ rfl; (with_reducible repeat (first | refine blk_drewN ?_ _ | refine blk_drew ?_ | refine blk_alloc ?_ _)); refine blk_put (cs := #[.int .i64 0, .bool false]) ?_ 0 _ rfl; (with_reducible repeat (first | refine blk_drewN ?_ _ | refine blk_drew ?_ | refine blk_alloc ?_ _)); exact BK496.out) hb); have n3_ := Aside0.mk (below_step (by repeat (first | (with_reducible first | exact HB.out | apply below_alloc | apply pw_below_drewN | apply below_drew1 | refine below_set ?_ GE449.out | refine below_set ?_ GE496.out) | exact HB.out)) hb); clear HO493; clear BK449; clear BK496; clear HB; have HO493 := n0_; have BK449 := n1_; have BK496 := n2_; have HB := n3_; clear n0_ n1_ n2_ n3_; (try clear hb); (try clear hb2); (try clear hk); (try clear hi); have hcz155_0 : w154.cell? ⟨gb496, 0, none⟩ = some (.int .i64 t494) := (blk_cell BK496.out 0).trans rfl; have hcz155_1 : w154.cell? ⟨gb496, 1, none⟩ = some (.bool t495) := (blk_cell BK496.out 1).trans rfl; have hfz155_0 := blk_frozen BK496.out 0; have hfz155_1 := blk_frozen BK496.out 1) | ((with_reducible refine gate_callee (f := 40) rfl ?_); refine goesL_ (some 278) rfl rfl Try.func40 (by kernel_rfl) rfl #[.slice Ao153 t491.length co153, .agg #[.int .i64 t494, .bool t495]] rfl (by (try simp only [List.map_toArray, List.map_cons, List.map_nil]); first | done | rfl | (simp only [List.length_drop, List.length_take]; rfl)) ?_; (with_reducible refine (spec_BitsNeeded.calls kj16 _ _ t491 t494 t495 t499 t500 _ ?side1 ?side2 A107.out).mono ?_); (case side1 => repeat (first | exact (Kd.R_reads' HO493.out).2.2 | (with_reducible refine Kd.C_alloc ?_ _) | (with_reducible refine Kd.C_drewN ?_ _) | (with_reducible refine Kd.C_drew ?_))); (case side2 => exact (Kd.R_reads' HO493.out).2.1); rintro e w156 ⟨rfl, hb⟩; refine ⟨_, rfl, ?_⟩; have n0_ := Aside0.mk (Kd.R_below (by (with_reducible repeat (first | apply Kd.R_alloc | apply Kd.R_drewN | apply Kd.R_drew)); exact HO493.out) hb); have n1_ := Aside0.mk (blk_below (g := gb449) (o := .cells #[.int .i64 t439, .bool t440] 44 (0, 0)) (by (with_reducible repeat (first | refine blk_drewN ?_ _ | refine blk_drew ?_ | refine blk_alloc ?_ _)); exact BK449.out) hb); have n2_ := Aside0.mk (blk_below (g := gb496) (o := .cells #[.int .i64 t494, .bool t495] 44 (0, 0)) (by (with_reducible repeat (first | refine blk_drewN ?_ _ | refine blk_drew ?_ | refine blk_alloc ?_ _)); exact BK496.out) hb); have n3_ := Aside0.mk (below_step (by repeat (first | (with_reducible first | exact HB.out | apply below_alloc | apply pw_below_drewN | apply below_drew1 | refine below_set ?_ GE449.out | refine below_set ?_ GE496.out) | exact HB.out)) hb); clear HO493; clear BK449; clear BK496; clear HB; have HO493 := n0_; have BK449 := n1_; have BK496 := n2_; have HB := n3_; clear n0_ n1_ n2_ n3_; (try clear hb); (try clear hb2); (try clear hk); (try clear hi)) | ((with_reducible refine gate_callee (f := 41) rfl ?_); refine goesL_ (some 292) rfl rfl Try.func41 (by kernel_rfl) rfl #[.slice Ao153 t491.length co153] rfl (by (try simp only [List.map_toArray, List.map_cons, List.map_nil]); first | done | rfl | (simp only [List.length_drop, List.length_take]; rfl)) ?_; (with_reducible refine (impl_SizeGain.calls kj16 _ _ t491 t501 true _ ?side1 ?side2 A111.out).mono ?_); (case side1 => repeat (first | exact (Kd.R_reads' HO493.out).2.2 | (with_reducible refine Kd.C_alloc ?_ _) | (with_reducible refine Kd.C_drewN ?_ _) | (with_reducible refine Kd.C_drew ?_))); (case side2 => exact (Kd.R_reads' HO493.out).2.1); rintro e w157 ⟨rfl, hb⟩; refine ⟨_, rfl, ?_⟩; have n0_ := Aside0.mk (Kd.R_below (by (with_reducible repeat (first | apply Kd.R_alloc | apply Kd.R_drewN | apply Kd.R_drew)); exact HO493.out) hb); have n1_ := Aside0.mk (blk_below (g := gb449) (o := .cells #[.int .i64 t439, .bool t440] 44 (0, 0)) (by (with_reducible repeat (first | refine blk_drewN ?_ _ | refine blk_drew ?_ | refine blk_alloc ?_ _)); exact BK449.out) hb); have n2_ := Aside0.mk (blk_below (g := gb496) (o := .cells #[.int .i64 t494, .bool t495] 44 (0, 0)) (by (with_reducible repeat (first | refine blk_drewN ?_ _ | refine blk_drew ?_ | refine blk_alloc ?_ _)); exact BK496.out) hb); have n3_ := Aside0.mk (below_step (by repeat (first | (with_reducible first | exact HB.out | apply below_alloc | apply pw_below_drewN | apply below_drew1 | refine below_set ?_ GE449.out | refine below_set ?_ GE496.out) | exact HB.out)) hb); clear HO493; clear BK449; clear BK496; clear HB; have HO493 := n0_; have BK449 := n1_; have BK496 := n2_; have HB := n3_; clear n0_ n1_ n2_ n3_; (try clear hb); (try clear hb2); (try clear hk); (try clear hi); have hcz158_0 : w157.cell? ⟨gb496, 0, none⟩ = some (.int .i64 t494) := (blk_cell BK496.out 0).trans rfl; have hcz158_1 : w157.cell? ⟨gb496, 1, none⟩ = some (.bool t495) := (blk_cell BK496.out 1).trans rfl; have hfz158_0 := blk_frozen BK496.out 0; have hfz158_1 := blk_frozen BK496.out 1) | ((with_reducible refine gate_callee (f := 34) rfl ?_); refine goesL_ (some 297) rfl rfl Try.func34 (by kernel_rfl) rfl #[.agg #[.int .i64 t494, .bool t495]] rfl (by (try simp only [List.map_toArray, List.map_cons, List.map_nil]); first | done | rfl | (simp only [List.length_drop, List.length_take]; rfl)) ?_; (with_reducible refine (impl_RangeOf.calls t494 t495 t503 t504 true _ A112.out).mono ?_); rintro e w159 ⟨rfl, hb⟩; refine ⟨_, rfl, ?_⟩; have n0_ := Aside0.mk (Kd.R_below (by (with_reducible repeat (first | apply Kd.R_alloc | apply Kd.R_drewN | apply Kd.R_drew)); exact HO493.out) hb); have n1_ := Aside0.mk (blk_below (g := gb449) (o := .cells #[.int .i64 t439, .bool t440] 44 (0, 0)) (by (with_reducible repeat (first | refine blk_drewN ?_ _ | refine blk_drew ?_ | refine blk_alloc ?_ _)); exact BK449.out) hb); have n2_ := Aside0.mk (blk_below (g := gb496) (o := .cells #[.int .i64 t494, .bool t495] 44 (0, 0)) (by (with_reducible repeat (first | refine blk_drewN ?_ _ | refine blk_drew ?_ | refine blk_alloc ?_ _)); exact BK496.out) hb); have n3_ := Aside0.mk (below_step (by repeat (first | (with_reducible first | exact HB.out | apply below_alloc | apply pw_below_drewN | apply below_drew1 | refine below_set ?_ GE449.out | refine below_set ?_ GE496.out) | exact HB.out)) hb); clear HO493; clear BK449; clear BK496; clear HB; have HO493 := n0_; have BK449 := n1_; have BK496 := n2_; have HB := n3_; clear n0_ n1_ n2_ n3_; (try clear hb); (try clear hb2); (try clear hk); (try clear hi)))
                   go_ret
                   exact ⟨by first | rfl | (simp [errW_none, errW_some] <;> rfl) | (simp only [← hji115, ← hji117, ← hji120, ← hji122]; first | rfl | (simp [errW_none, errW_some] <;> rfl)) | (simp [*, errW_none, errW_some] <;> rfl), by repeat (first | (with_reducible first | exact HB.out | apply below_alloc | apply pw_below_drewN | apply below_drew1 | refine below_set ?_ GE449.out | refine below_set ?_ GE496.out) | exact HB.out)⟩
                 ·rw [if_neg c121] at H
                  exact absurd H (by simp)
                ·rw [if_neg c119] at H
                 have c119b0 : decide (2 < t497) = false := decide_eq_false c119
                 clear c119
                 obtain rfl := Option.some.inj H
                 go_wp2_with (first | ((with_reducible refine gate_callee (f := 39) rfl ?_); refine goesL_ (some 266) rfl rfl Try.func39 (by kernel_rfl) rfl #[.slice A1 l1.length c1] rfl (by (try simp only [List.map_toArray, List.map_cons, List.map_nil]); first | done | rfl | (simp only [List.length_drop, List.length_take]; rfl)) ?_; (with_reducible refine (spec_DrawBitsNeeded.calls kj16 _ _ l1 t491 t494 t495 _ ?side1 ?side2 A105.out).mono ?_); (case side1 => repeat (first | exact (Kd.C_below HR1.out HB.out) | (with_reducible refine Kd.C_alloc ?_ _) | (with_reducible refine Kd.C_drewN ?_ _) | (with_reducible refine Kd.C_drew ?_))); (case side2 => exact HC1.out); rintro e w160 ⟨v492, rfl, ho0, hb⟩; refine ⟨_, rfl, ?_⟩; have n0_ := Aside0.mk (Kd.R_lower ho0 (below_size (by repeat (first | (with_reducible first | exact HB.out | apply below_alloc | apply pw_below_drewN | apply below_drew1 | refine below_set ?_ GE449.out) | exact HB.out)))); have n1_ := Aside0.mk (blk_below (g := gb449) (o := .cells #[.int .i64 t439, .bool t440] 44 (0, 0)) (by (with_reducible repeat (first | refine blk_drewN ?_ _ | refine blk_drew ?_ | refine blk_alloc ?_ _)); exact BK449.out) hb); have n2_ := Aside0.mk (below_step (by repeat (first | (with_reducible first | exact HB.out | apply below_alloc | apply pw_below_drewN | apply below_drew1 | refine below_set ?_ GE449.out) | exact HB.out)) hb); clear BK449; clear HB; have HO493 := n0_; have BK449 := n1_; have HB := n2_; clear n0_ n1_ n2_; (try clear hb); (try clear hb2); (try clear hk); (try clear hi); (try clear ho0)) | ((with_reducible refine gate_dst (N := 33) rfl ?_); (try (refine gate_guard (by rfl) ?_; dsimp only)); refine box_event ?hg (N := 33) ?hd (cs := #[.int .i64 0, .bool false]) (t := 44) ?hr ?_; (case hd => rfl); (case hg => rfl); (case hr => first | (go_simp; done) | (go_simp; rfl)); intro gb496 hg w161 hbox hb; have n0_ := Aside0.mk (Kd.R_below (by (with_reducible repeat (first | apply Kd.R_alloc | apply Kd.R_drewN | apply Kd.R_drew)); exact HO493.out) hb); have n1_ := Aside0.mk (blk_below (g := gb449) (o := .cells #[.int .i64 t439, .bool t440] 44 (0, 0)) (by (with_reducible repeat (first | refine blk_drewN ?_ _ | refine blk_drew ?_ | refine blk_alloc ?_ _)); exact BK449.out) hb); have n2_ := Aside0.mk (below_step (by repeat (first | (with_reducible first | exact HB.out | apply below_alloc | apply pw_below_drewN | apply below_drew1 | refine below_set ?_ GE449.out) | exact HB.out)) hb); have n3_ := Aside0.mk (hbox); have n4_ := Aside0.mk ((by rw [hg]; exact (below_size (by repeat (first | (with_reducible first | exact HB.out | apply below_alloc | apply pw_below_drewN | apply below_drew1 | refine below_set ?_ GE449.out) | exact HB.out))) : w.heap.size ≤ gb496)); have n5_ := Aside0.mk ((by rw [hg]; exact (below_size (by repeat (first | (with_reducible first | exact HB.out | apply below_alloc | apply pw_below_drewN | apply below_drew1 | refine below_set ?_ GE449.out) | exact HB.out))) : w.heap.size ≤ gb496)); have n6_ := Aside0.mk ((by rw [hg]; exact Nat.ne_of_lt (blk_lt (g := gb449) (o := .cells #[.int .i64 t439, .bool t440] 44 (0, 0)) (by (with_reducible repeat (first | refine blk_drewN ?_ _ | refine blk_drew ?_ | refine blk_alloc ?_ _)); exact BK449.out)) : gb449 ≠ gb496)); have n7_ := Aside0.mk ((by rw [hg]; exact Nat.ne_of_gt (blk_lt (g := gb449) (o := .cells #[.int .i64 t439, .bool t440] 44 (0, 0)) (by (with_reducible repeat (first | refine blk_drewN ?_ _ | refine blk_drew ?_ | refine blk_alloc ?_ _)); exact BK449.out)) : gb496 ≠ gb449)); clear HO493; clear BK449; clear HB; have HO493 := n0_; have BK449 := n1_; have HB := n2_; have BK496 := n3_; have GW496 := n4_; have GE496 := n5_; have NB449_496 := n6_; have NB496_449 := n7_; clear n0_ n1_ n2_ n3_ n4_ n5_ n6_ n7_; clear hb hbox hg; have hnb162 := NB496_449.out; have hnc162 := NB449_496.out; have hcz163_0 : w161.cell? ⟨gb496, 0, none⟩ = some (.int .i64 0) := (blk_cell BK496.out 0).trans rfl; have hcz163_1 : w161.cell? ⟨gb496, 1, none⟩ = some (.bool false) := (blk_cell BK496.out 1).trans rfl; have hfz163_0 := blk_frozen BK496.out 0; have hfz163_1 := blk_frozen BK496.out 1; obtain ⟨Ao164, co164, eo164⟩ := Kd.R_slice HO493.out; subst eo164) | ((with_reducible refine gate_callee (f := 38) rfl ?_); refine goesL_ (some 272) rfl rfl Try.func38 (by kernel_rfl) rfl #[.slice Ao164 t491.length co164, .agg #[.int .i64 t494, .bool t495]] rfl (by (try simp only [List.map_toArray, List.map_cons, List.map_nil]); first | done | rfl | (simp only [List.length_drop, List.length_take]; rfl)) ?_; (with_reducible refine (impl_BitsNeeded.calls kj16 _ _ t491 t494 t495 t497 true _ ?side1 ?side2 A106.out).mono ?_); (case side1 => refine (Kd.R_reads' (e := 3) (base := w.heap.size) (ok := fun k_ => True) (n := t491.length) (c := co164) ?_).2.2; exact (by (with_reducible repeat (first | apply Kd.R_alloc | apply Kd.R_drewN | apply Kd.R_drew)); exact (Kd.R_mono (Kd.R_far (p := ⟨gb496, 1, none⟩) (Kd.R_far (p := ⟨gb496, 0, none⟩) (Kd.R_types HO493.out BK496.out (by decide)) (fun _ hk => hk.2) (.int .i64 t494)) (fun _ hk => hk.2) (.bool t495)) (fun _ h_ => h_.1)))); (case side2 => exact (Kd.R_reads' HO493.out).2.1); rintro e w165 ⟨rfl, hb⟩; refine ⟨_, rfl, ?_⟩; have n0_ := Aside0.mk (Kd.R_below (by (with_reducible repeat (first | apply Kd.R_alloc | apply Kd.R_drewN | apply Kd.R_drew)); exact (Kd.R_mono (Kd.R_far (p := ⟨gb496, 1, none⟩) (Kd.R_far (p := ⟨gb496, 0, none⟩) (Kd.R_types HO493.out BK496.out (by decide)) (fun _ hk => hk.2) (.int .i64 t494)) (fun _ hk => hk.2) (.bool t495)) (fun _ h_ => h_.1))) hb); have n1_ := Aside0.mk (blk_below (g := gb449) (o := .cells #[.int .i64 t439, .bool t440] 44 (0, 0)) (by (with_reducible repeat (first | refine blk_drewN ?_ _ | refine blk_drew ?_ | refine blk_alloc ?_ _)); refine blk_far ?_ NB449_496.out _; (with_reducible repeat (first | refine blk_drewN ?_ _ | refine blk_drew ?_ | refine blk_alloc ?_ _)); refine blk_far ?_ NB449_496.out _; (with_reducible repeat (first | refine blk_drewN ?_ _ | refine blk_drew ?_ | refine blk_alloc ?_ _)); exact BK449.out) hb); have n2_ := Aside0.mk (blk_below (g := gb496) (o := .cells #[.int .i64 t494, .bool t495] 44 (0, 0)) (by (with_reducible repeat (first | refine blk_drewN ?_ _ | refine blk_drew ?_ | refine blk_alloc ?_ _)); refine blk_put (cs := #[.int .i64 t494, .bool false]) ?_ 1 _ rfl; (with_reducible repeat (first | refine blk_drewN ?_ _ | refine blk_drew ?_ | refine blk_alloc ?_ _)); refine blk_put (cs := #[.int .i64 0, .bool false]) ?_ 0 _ rfl; (with_reducible repeat (first | refine blk_drewN ?_ _ | refine blk_drew ?_ | refine blk_alloc ?_ _)); exact BK496.out) hb); have n3_ := Aside0.mk (below_step (by repeat (first | (with_reducible first | exact HB.out | apply below_alloc | apply pw_below_drewN | apply below_drew1 | refine below_set ?_ GE449.out | refine below_set ?_ GE496.out) | exact HB.out)) hb); clear HO493; clear BK449; clear BK496; clear HB; have HO493 := n0_; have BK449 := n1_; have BK496 := n2_; have HB := n3_; clear n0_ n1_ n2_ n3_; (try clear hb); (try clear hb2); (try clear hk); (try clear hi); have hcz166_0 : w165.cell? ⟨gb496, 0, none⟩ = some (.int .i64 t494) := (blk_cell BK496.out 0).trans rfl; have hcz166_1 : w165.cell? ⟨gb496, 1, none⟩ = some (.bool t495) := (blk_cell BK496.out 1).trans rfl; have hfz166_0 := blk_frozen BK496.out 0; have hfz166_1 := blk_frozen BK496.out 1) | ((with_reducible refine gate_callee (f := 40) rfl ?_); refine goesL_ (some 278) rfl rfl Try.func40 (by kernel_rfl) rfl #[.slice Ao164 t491.length co164, .agg #[.int .i64 t494, .bool t495]] rfl (by (try simp only [List.map_toArray, List.map_cons, List.map_nil]); first | done | rfl | (simp only [List.length_drop, List.length_take]; rfl)) ?_; (with_reducible refine (spec_BitsNeeded.calls kj16 _ _ t491 t494 t495 t499 t500 _ ?side1 ?side2 A107.out).mono ?_); (case side1 => repeat (first | exact (Kd.R_reads' HO493.out).2.2 | (with_reducible refine Kd.C_alloc ?_ _) | (with_reducible refine Kd.C_drewN ?_ _) | (with_reducible refine Kd.C_drew ?_))); (case side2 => exact (Kd.R_reads' HO493.out).2.1); rintro e w167 ⟨rfl, hb⟩; refine ⟨_, rfl, ?_⟩; have n0_ := Aside0.mk (Kd.R_below (by (with_reducible repeat (first | apply Kd.R_alloc | apply Kd.R_drewN | apply Kd.R_drew)); exact HO493.out) hb); have n1_ := Aside0.mk (blk_below (g := gb449) (o := .cells #[.int .i64 t439, .bool t440] 44 (0, 0)) (by (with_reducible repeat (first | refine blk_drewN ?_ _ | refine blk_drew ?_ | refine blk_alloc ?_ _)); exact BK449.out) hb); have n2_ := Aside0.mk (blk_below (g := gb496) (o := .cells #[.int .i64 t494, .bool t495] 44 (0, 0)) (by (with_reducible repeat (first | refine blk_drewN ?_ _ | refine blk_drew ?_ | refine blk_alloc ?_ _)); exact BK496.out) hb); have n3_ := Aside0.mk (below_step (by repeat (first | (with_reducible first | exact HB.out | apply below_alloc | apply pw_below_drewN | apply below_drew1 | refine below_set ?_ GE449.out | refine below_set ?_ GE496.out) | exact HB.out)) hb); clear HO493; clear BK449; clear BK496; clear HB; have HO493 := n0_; have BK449 := n1_; have BK496 := n2_; have HB := n3_; clear n0_ n1_ n2_ n3_; (try clear hb); (try clear hb2); (try clear hk); (try clear hi)) | ((with_reducible refine gate_callee (f := 41) rfl ?_); refine goesL_ (some 292) rfl rfl Try.func41 (by kernel_rfl) rfl #[.slice Ao164 t491.length co164] rfl (by (try simp only [List.map_toArray, List.map_cons, List.map_nil]); first | done | rfl | (simp only [List.length_drop, List.length_take]; rfl)) ?_; (with_reducible refine (impl_SizeGain.calls kj16 _ _ t491 t501 true _ ?side1 ?side2 A111.out).mono ?_); (case side1 => repeat (first | exact (Kd.R_reads' HO493.out).2.2 | (with_reducible refine Kd.C_alloc ?_ _) | (with_reducible refine Kd.C_drewN ?_ _) | (with_reducible refine Kd.C_drew ?_))); (case side2 => exact (Kd.R_reads' HO493.out).2.1); rintro e w168 ⟨rfl, hb⟩; refine ⟨_, rfl, ?_⟩; have n0_ := Aside0.mk (Kd.R_below (by (with_reducible repeat (first | apply Kd.R_alloc | apply Kd.R_drewN | apply Kd.R_drew)); exact HO493.out) hb); have n1_ := Aside0.mk (blk_below (g := gb449) (o := .cells #[.int .i64 t439, .bool t440] 44 (0, 0)) (by (with_reducible repeat (first | refine blk_drewN ?_ _ | refine blk_drew ?_ | refine blk_alloc ?_ _)); exact BK449.out) hb); have n2_ := Aside0.mk (blk_below (g := gb496) (o := .cells #[.int .i64 t494, .bool t495] 44 (0, 0)) (by (with_reducible repeat (first | refine blk_drewN ?_ _ | refine blk_drew ?_ | refine blk_alloc ?_ _)); exact BK496.out) hb); have n3_ := Aside0.mk (below_step (by repeat (first | (with_reducible first | exact HB.out | apply below_alloc | apply pw_below_drewN | apply below_drew1 | refine below_set ?_ GE449.out | refine below_set ?_ GE496.out) | exact HB.out)) hb); clear HO493; clear BK449; clear BK496; clear HB; have HO493 := n0_; have BK449 := n1_; have BK496 := n2_; have HB := n3_; clear n0_ n1_ n2_ n3_; (try clear hb); (try clear hb2); (try clear hk); (try clear hi); have hcz169_0 : w168.cell? ⟨gb496, 0, none⟩ = some (.int .i64 t494) := (blk_cell BK496.out 0).trans rfl; have hcz169_1 : w168.cell? ⟨gb496, 1, none⟩ = some (.bool t495) := (blk_cell BK496.out 1).trans rfl; have hfz169_0 := blk_frozen BK496.out 0; have hfz169_1 := blk_frozen BK496.out 1) | ((with_reducible refine gate_callee (f := 34) rfl ?_); refine goesL_ (some 297) rfl rfl Try.func34 (by kernel_rfl) rfl #[.agg #[.int .i64 t494, .bool t495]] rfl (by (try simp only [List.map_toArray, List.map_cons, List.map_nil]); first | done | rfl | (simp only [List.length_drop, List.length_take]; rfl)) ?_; (with_reducible refine (impl_RangeOf.calls t494 t495 t503 t504 true _ A112.out).mono ?_); rintro e w170 ⟨rfl, hb⟩; refine ⟨_, rfl, ?_⟩; have n0_ := Aside0.mk (Kd.R_below (by (with_reducible repeat (first | apply Kd.R_alloc | apply Kd.R_drewN | apply Kd.R_drew)); exact HO493.out) hb); have n1_ := Aside0.mk (blk_below (g := gb449) (o := .cells #[.int .i64 t439, .bool t440] 44 (0, 0)) (by (with_reducible repeat (first | refine blk_drewN ?_ _ | refine blk_drew ?_ | refine blk_alloc ?_ _)); exact BK449.out) hb); have n2_ := Aside0.mk (blk_below (g := gb496) (o := .cells #[.int .i64 t494, .bool t495] 44 (0, 0)) (by (with_reducible repeat (first | refine blk_drewN ?_ _ | refine blk_drew ?_ | refine blk_alloc ?_ _)); exact BK496.out) hb); have n3_ := Aside0.mk (below_step (by repeat (first | (with_reducible first | exact HB.out | apply below_alloc | apply pw_below_drewN | apply below_drew1 | refine below_set ?_ GE449.out | refine below_set ?_ GE496.out) | exact HB.out)) hb); clear HO493; clear BK449; clear BK496; clear HB; have HO493 := n0_; have BK449 := n1_; have BK496 := n2_; have HB := n3_; clear n0_ n1_ n2_ n3_; (try clear hb); (try clear hb2); (try clear hk); (try clear hi)))
                 go_ret
                 exact ⟨by first | rfl | (simp [errW_none, errW_some] <;> rfl) | (simp only [← hji115, ← hji117]; first | rfl | (simp [errW_none, errW_some] <;> rfl)) | (simp [*, errW_none, errW_some] <;> rfl), by repeat (first | (with_reducible first | exact HB.out | apply below_alloc | apply pw_below_drewN | apply below_drew1 | refine below_set ?_ GE449.out | refine below_set ?_ GE496.out) | exact HB.out)⟩
              ·rw [if_neg c116] at H
               exact absurd H (by simp)
             ·replace c114 := Bool.eq_false_iff.mpr c114
              subst c114
              have H1 : (some false) = some r := by rw [if_neg (show ¬ (false = true) by decide)] at H; exact H
              clear H
              have H := H1
              clear H1
              obtain rfl := Option.some.inj H
              exact absurd HT.out (by simp)
            ·replace c113 := Bool.eq_false_iff.mpr c113
             subst c113
             have H1 : (some false) = some r := by rw [if_neg (show ¬ (false = true) by decide)] at H; exact H
             clear H
             have H := H1
             clear H1
             obtain rfl := Option.some.inj H
             exact absurd HT.out (by simp)
           ·replace c110 := Bool.eq_false_iff.mpr c110
            subst c110
            have H1 : (some true) = some r := by rw [if_neg (show ¬ (false = true) by decide)] at H; exact H
            clear H
            have H := H1
            clear H1
            obtain rfl := Option.some.inj H
            go_wp2_with (first | ((with_reducible refine gate_callee (f := 39) rfl ?_); refine goesL_ (some 266) rfl rfl Try.func39 (by kernel_rfl) rfl #[.slice A1 l1.length c1] rfl (by (try simp only [List.map_toArray, List.map_cons, List.map_nil]); first | done | rfl | (simp only [List.length_drop, List.length_take]; rfl)) ?_; (with_reducible refine (spec_DrawBitsNeeded.calls kj16 _ _ l1 t491 t494 t495 _ ?side1 ?side2 A105.out).mono ?_); (case side1 => repeat (first | exact (Kd.C_below HR1.out HB.out) | (with_reducible refine Kd.C_alloc ?_ _) | (with_reducible refine Kd.C_drewN ?_ _) | (with_reducible refine Kd.C_drew ?_))); (case side2 => exact HC1.out); rintro e w171 ⟨v492, rfl, ho0, hb⟩; refine ⟨_, rfl, ?_⟩; have n0_ := Aside0.mk (Kd.R_lower ho0 (below_size (by repeat (first | (with_reducible first | exact HB.out | apply below_alloc | apply pw_below_drewN | apply below_drew1 | refine below_set ?_ GE449.out) | exact HB.out)))); have n1_ := Aside0.mk (blk_below (g := gb449) (o := .cells #[.int .i64 t439, .bool t440] 44 (0, 0)) (by (with_reducible repeat (first | refine blk_drewN ?_ _ | refine blk_drew ?_ | refine blk_alloc ?_ _)); exact BK449.out) hb); have n2_ := Aside0.mk (below_step (by repeat (first | (with_reducible first | exact HB.out | apply below_alloc | apply pw_below_drewN | apply below_drew1 | refine below_set ?_ GE449.out) | exact HB.out)) hb); clear BK449; clear HB; have HO493 := n0_; have BK449 := n1_; have HB := n2_; clear n0_ n1_ n2_; (try clear hb); (try clear hb2); (try clear hk); (try clear hi); (try clear ho0)) | ((with_reducible refine gate_dst (N := 33) rfl ?_); (try (refine gate_guard (by rfl) ?_; dsimp only)); refine box_event ?hg (N := 33) ?hd (cs := #[.int .i64 0, .bool false]) (t := 44) ?hr ?_; (case hd => rfl); (case hg => rfl); (case hr => first | (go_simp; done) | (go_simp; rfl)); intro gb496 hg w172 hbox hb; have n0_ := Aside0.mk (Kd.R_below (by (with_reducible repeat (first | apply Kd.R_alloc | apply Kd.R_drewN | apply Kd.R_drew)); exact HO493.out) hb); have n1_ := Aside0.mk (blk_below (g := gb449) (o := .cells #[.int .i64 t439, .bool t440] 44 (0, 0)) (by (with_reducible repeat (first | refine blk_drewN ?_ _ | refine blk_drew ?_ | refine blk_alloc ?_ _)); exact BK449.out) hb); have n2_ := Aside0.mk (below_step (by repeat (first | (with_reducible first | exact HB.out | apply below_alloc | apply pw_below_drewN | apply below_drew1 | refine below_set ?_ GE449.out) | exact HB.out)) hb); have n3_ := Aside0.mk (hbox); have n4_ := Aside0.mk ((by rw [hg]; exact (below_size (by repeat (first | (with_reducible first | exact HB.out | apply below_alloc | apply pw_below_drewN | apply below_drew1 | refine below_set ?_ GE449.out) | exact HB.out))) : w.heap.size ≤ gb496)); have n5_ := Aside0.mk ((by rw [hg]; exact (below_size (by repeat (first | (with_reducible first | exact HB.out | apply below_alloc | apply pw_below_drewN | apply below_drew1 | refine below_set ?_ GE449.out) | exact HB.out))) : w.heap.size ≤ gb496)); have n6_ := Aside0.mk ((by rw [hg]; exact Nat.ne_of_lt (blk_lt (g := gb449) (o := .cells #[.int .i64 t439, .bool t440] 44 (0, 0)) (by (with_reducible repeat (first | refine blk_drewN ?_ _ | refine blk_drew ?_ | refine blk_alloc ?_ _)); exact BK449.out)) : gb449 ≠ gb496)); have n7_ := Aside0.mk ((by rw [hg]; exact Nat.ne_of_gt (blk_lt (g := gb449) (o := .cells #[.int .i64 t439, .bool t440] 44 (0, 0)) (by (with_reducible repeat (first | refine blk_drewN ?_ _ | refine blk_drew ?_ | refine blk_alloc ?_ _)); exact BK449.out)) : gb496 ≠ gb449)); clear HO493; clear BK449; clear HB; have HO493 := n0_; have BK449 := n1_; have HB := n2_; have BK496 := n3_; have GW496 := n4_; have GE496 := n5_; have NB449_496 := n6_; have NB496_449 := n7_; clear n0_ n1_ n2_ n3_ n4_ n5_ n6_ n7_; clear hb hbox hg; have hnb173 := NB496_449.out; have hnc173 := NB449_496.out; have hcz174_0 : w172.cell? ⟨gb496, 0, none⟩ = some (.int .i64 0) := (blk_cell BK496.out 0).trans rfl; have hcz174_1 : w172.cell? ⟨gb496, 1, none⟩ = some (.bool false) := (blk_cell BK496.out 1).trans rfl; have hfz174_0 := blk_frozen BK496.out 0; have hfz174_1 := blk_frozen BK496.out 1; obtain ⟨Ao175, co175, eo175⟩ := Kd.R_slice HO493.out; subst eo175) | ((with_reducible refine gate_callee (f := 38) rfl ?_); refine goesL_ (some 272) rfl rfl Try.func38 (by kernel_rfl) rfl #[.slice Ao175 t491.length co175, .agg #[.int .i64 t494, .bool t495]] rfl (by (try simp only [List.map_toArray, List.map_cons, List.map_nil]); first | done | rfl | (simp only [List.length_drop, List.length_take]; rfl)) ?_; (with_reducible refine (impl_BitsNeeded.calls kj16 _ _ t491 t494 t495 t497 false _ ?side1 ?side2 A106.out).mono ?_); (case side1 => refine (Kd.R_reads' (e := 3) (base := w.heap.size) (ok := fun k_ => True) (n := t491.length) (c := co175) ?_).2.2; exact (by (with_reducible repeat (first | apply Kd.R_alloc | apply Kd.R_drewN | apply Kd.R_drew)); exact (Kd.R_mono (Kd.R_far (p := ⟨gb496, 1, none⟩) (Kd.R_far (p := ⟨gb496, 0, none⟩) (Kd.R_types HO493.out BK496.out (by decide)) (fun _ hk => hk.2) (.int .i64 t494)) (fun _ hk => hk.2) (.bool t495)) (fun _ h_ => h_.1)))); (case side2 => exact (Kd.R_reads' HO493.out).2.1); rintro e w176 ⟨rfl, hb⟩; refine ⟨_, rfl, ?_⟩; have n0_ := Aside0.mk (Kd.R_below (by (with_reducible repeat (first | apply Kd.R_alloc | apply Kd.R_drewN | apply Kd.R_drew)); exact (Kd.R_mono (Kd.R_far (p := ⟨gb496, 1, none⟩) (Kd.R_far (p := ⟨gb496, 0, none⟩) (Kd.R_types HO493.out BK496.out (by decide)) (fun _ hk => hk.2) (.int .i64 t494)) (fun _ hk => hk.2) (.bool t495)) (fun _ h_ => h_.1))) hb); have n1_ := Aside0.mk (blk_below (g := gb449) (o := .cells #[.int .i64 t439, .bool t440] 44 (0, 0)) (by (with_reducible repeat (first | refine blk_drewN ?_ _ | refine blk_drew ?_ | refine blk_alloc ?_ _)); refine blk_far ?_ NB449_496.out _; (with_reducible repeat (first | refine blk_drewN ?_ _ | refine blk_drew ?_ | refine blk_alloc ?_ _)); refine blk_far ?_ NB449_496.out _; (with_reducible repeat (first | refine blk_drewN ?_ _ | refine blk_drew ?_ | refine blk_alloc ?_ _)); exact BK449.out) hb); have n2_ := Aside0.mk (blk_below (g := gb496) (o := .cells #[.int .i64 t494, .bool t495] 44 (0, 0)) (by (with_reducible repeat (first | refine blk_drewN ?_ _ | refine blk_drew ?_ | refine blk_alloc ?_ _)); refine blk_put (cs := #[.int .i64 t494, .bool false]) ?_ 1 _ rfl; (with_reducible repeat (first | refine blk_drewN ?_ _ | refine blk_drew ?_ | refine blk_alloc ?_ _)); refine blk_put (cs := #[.int .i64 0, .bool false]) ?_ 0 _ rfl; (with_reducible repeat (first | refine blk_drewN ?_ _ | refine blk_drew ?_ | refine blk_alloc ?_ _)); exact BK496.out) hb); have n3_ := Aside0.mk (below_step (by repeat (first | (with_reducible first | exact HB.out | apply below_alloc | apply pw_below_drewN | apply below_drew1 | refine below_set ?_ GE449.out | refine below_set ?_ GE496.out) | exact HB.out)) hb); clear HO493; clear BK449; clear BK496; clear HB; have HO493 := n0_; have BK449 := n1_; have BK496 := n2_; have HB := n3_; clear n0_ n1_ n2_ n3_; (try clear hb); (try clear hb2); (try clear hk); (try clear hi); have hcz177_0 : w176.cell? ⟨gb496, 0, none⟩ = some (.int .i64 t494) := (blk_cell BK496.out 0).trans rfl; have hcz177_1 : w176.cell? ⟨gb496, 1, none⟩ = some (.bool t495) := (blk_cell BK496.out 1).trans rfl; have hfz177_0 := blk_frozen BK496.out 0; have hfz177_1 := blk_frozen BK496.out 1) | ((with_reducible refine gate_callee (f := 40) rfl ?_); refine goesL_ (some 278) rfl rfl Try.func40 (by kernel_rfl) rfl #[.slice Ao175 t491.length co175, .agg #[.int .i64 t494, .bool t495]] rfl (by (try simp only [List.map_toArray, List.map_cons, List.map_nil]); first | done | rfl | (simp only [List.length_drop, List.length_take]; rfl)) ?_; (with_reducible refine (spec_BitsNeeded.calls kj16 _ _ t491 t494 t495 t499 t500 _ ?side1 ?side2 A107.out).mono ?_); (case side1 => repeat (first | exact (Kd.R_reads' HO493.out).2.2 | (with_reducible refine Kd.C_alloc ?_ _) | (with_reducible refine Kd.C_drewN ?_ _) | (with_reducible refine Kd.C_drew ?_))); (case side2 => exact (Kd.R_reads' HO493.out).2.1); rintro e w178 ⟨rfl, hb⟩; refine ⟨_, rfl, ?_⟩; have n0_ := Aside0.mk (Kd.R_below (by (with_reducible repeat (first | apply Kd.R_alloc | apply Kd.R_drewN | apply Kd.R_drew)); exact HO493.out) hb); have n1_ := Aside0.mk (blk_below (g := gb449) (o := .cells #[.int .i64 t439, .bool t440] 44 (0, 0)) (by (with_reducible repeat (first | refine blk_drewN ?_ _ | refine blk_drew ?_ | refine blk_alloc ?_ _)); exact BK449.out) hb); have n2_ := Aside0.mk (blk_below (g := gb496) (o := .cells #[.int .i64 t494, .bool t495] 44 (0, 0)) (by (with_reducible repeat (first | refine blk_drewN ?_ _ | refine blk_drew ?_ | refine blk_alloc ?_ _)); exact BK496.out) hb); have n3_ := Aside0.mk (below_step (by repeat (first | (with_reducible first | exact HB.out | apply below_alloc | apply pw_below_drewN | apply below_drew1 | refine below_set ?_ GE449.out | refine below_set ?_ GE496.out) | exact HB.out)) hb); clear HO493; clear BK449; clear BK496; clear HB; have HO493 := n0_; have BK449 := n1_; have BK496 := n2_; have HB := n3_; clear n0_ n1_ n2_ n3_; (try clear hb); (try clear hb2); (try clear hk); (try clear hi)))
            go_ret
            exact ⟨by first | rfl | (simp [errW_none, errW_some] <;> rfl) | (simp [*, errW_none, errW_some] <;> rfl), by repeat (first | (with_reducible first | exact HB.out | apply below_alloc | apply pw_below_drewN | apply below_drew1 | refine below_set ?_ GE449.out | refine below_set ?_ GE496.out) | exact HB.out)⟩
          ·rw [if_neg c109] at H
           have c109b0 : (t497 == t499) = false := beq_eq_false_iff_ne.mpr c109
           have c109b1 : (t497 != t499) = true := bne_iff_ne.mpr c109
           obtain rfl := Option.some.inj H
           exact absurd HT.out (by simp)
     ·replace c15 := Bool.eq_false_iff.mpr c15
      subst c15
      have H1 : (some false) = some r := by rw [if_neg (show ¬ (false = true) by decide)] at H; exact H
      clear H
      have H := H1
      clear H1
      obtain rfl := Option.some.inj H
      exact absurd HT.out (by simp)
   ·replace c12 := Bool.eq_false_iff.mpr c12
    subst c12
    have H1 : (some false) = some r := by rw [if_neg (show ¬ (false = true) by decide)] at H; exact H
    clear H
    have H := H1
    clear H1
    obtain rfl := Option.some.inj H
    exact absurd HT.out (by simp)

/-- THE ONE PURE STATEMENT of laws_FnFiltersInWords: yours. -/
def laws_FnFiltersInWords.Pure : Prop := ∀ (l0 : List Int) (l1 : List Int), l0.length ≤ maxLen → l0.length * 1 ≤ 140737488351232 → (∀ x ∈ l0, (Lit.int .u8 x).wf = true) → l1.length ≤ maxLen → l1.length * 1 ≤ 140737488351232 → (∀ x ∈ l1, (Lit.int .u8 x).wf = true) → ∃ k, laws_FnFiltersInWords.f k l0 l1 = some true
theorem laws_FnFiltersInWords.walk (P : laws_FnFiltersInWords.Pure) (a0 : Option Addr) (len0 cap0 : Nat) (z0 : List Int) (a1 : Option Addr) (len1 cap1 : Nat) (z1 : List Int) (w : World) (w0 : (a0 = none ∧ len0 = 0 ∧ cap0 = 0 ∧ z0 = []) ∨ ∃ x, a0 = some x ∧ len0 ≤ cap0 ∧ cap0 ≤ maxLen ∧ z0.length = cap0 ∧ (∀ i, i < z0.length → w.cell? (x.add i) = some (.int .u8 (z0.getD i 0))) ∧ ∀ n ∈ z0, (Lit.int .u8 n).wf = true) (y0 : len0 * 1 ≤ 140737488351232) (w1 : (a1 = none ∧ len1 = 0 ∧ cap1 = 0 ∧ z1 = []) ∨ ∃ x, a1 = some x ∧ len1 ≤ cap1 ∧ cap1 ≤ maxLen ∧ z1.length = cap1 ∧ (∀ i, i < z1.length → w.cell? (x.add i) = some (.int .u8 (z1.getD i 0))) ∧ ∀ n ∈ z1, (Lit.int .u8 n).wf = true) (y1 : len1 * 1 ≤ 140737488351232) :
  Calls Try.prog 4 #[.slice a0 len0 cap0, .slice a1 len1 cap1] w fun e w' => e = .returned (.bool true) ∧ Below w.heap.size w w' := by
 obtain ⟨l0, rfl, hr0, hm0, hw0, hc0⟩ := ReadsInt.ofRowC w0
 obtain ⟨l1, rfl, hr1, hm1, hw1, hc1⟩ := ReadsInt.ofRowC w1
 obtain ⟨k, h⟩ := P l0 l1 hm0 y0 hw0 hm1 y1 hw1
 refine (laws_FnFiltersInWords.calls k _ _ l0 _ _ l1 true w (Kd.C_of_reads (d := (0 : Int)) (h1 := fun _ => rfl) hr0) hc0 (Kd.C_of_reads (d := (0 : Int)) (h1 := fun _ => rfl) hr1) hc1 rfl h).mono ?_
 rintro e w' ⟨rfl, hd⟩
 exact ⟨rfl, hd⟩

end Go.Proofs.Ytjbpflfihdabhaa.PFnFiltersInWords
