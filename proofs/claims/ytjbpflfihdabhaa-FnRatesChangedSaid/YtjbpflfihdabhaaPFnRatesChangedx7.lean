-- printed by a program of this claim's own
import Derived.Test.YtjbpflfihdabhaaPFnRatesChangedx0
import Derived.Test.YtjbpflfihdabhaaPFnRatesChangedx1
import Derived.Test.YtjbpflfihdabhaaPFnRatesChangedx2
import Derived.Test.YtjbpflfihdabhaaPFnRatesChangedx3
import Derived.Test.YtjbpflfihdabhaaPFnRatesChangedx4
import Derived.Test.YtjbpflfihdabhaaPFnRatesChangedx5
import Derived.Test.YtjbpflfihdabhaaPFnRatesChangedx6
namespace Go.Proofs.Ytjbpflfihdabhaa.PFnRatesChanged
open Go.RowKit Go.Proofs.YtjbpflfihdabhaaW.PrintWords Go.Proofs.YtjbpflfihdabhaaW.PrintLast Go.Proofs.YtjbpflfihdabhaaW.PrintMore Go.Proofs.Ytjbpflfihdabhaa.Cuts
attribute [local go_sem] max2_int min2_int max_two min_two max_three min_three max_four min_four   -- for this text's walks alone
set_option linter.unusedVariables false
set_option linter.unusedSimpArgs false

/-! ### laws_FnRatesChanged: function 3 -/
mutual
def laws_FnRatesChanged.j0 : Nat → List Int → List Int → Int → Int → List Int → Bool → List Int → List Int → Bool → Bool → Option (Bool)
 | 0, _, _, _, _, _, _, _, _, _, _ => none
 | k + 1, x1, x5, x6, x7, x8, x9, x12, x16, x17, x159 => if x159 = true then (some false) else (if x9 = true then ((impl_LengthAfter.f (x5.length : Int) x6 x7).bind fun bt371 => (if bt371.2 = true then (if (x8.length : Int) = bt371.1 then (if (x12.length : Int) = bt371.1 then (if x17 = true then (laws_FnRatesChanged.j1 k x1 x5 x6 x7 x8 x12 x16 x17 ((x16.length : Int) != bt371.1)) else (laws_FnRatesChanged.j1 k x1 x5 x6 x7 x8 x12 x16 x17 false)) else (some false)) else (some false)) else (some false))) else (laws_FnRatesChanged.j6 k x1))
def laws_FnRatesChanged.j6 : Nat → List Int → Option (Bool)
 | 0, _ => none
 | k + 1, x1 => (spec_DrawLengthAfter.f x1).bind fun bt407 => ((impl_LengthAfter.f bt407.1 bt407.2.1 bt407.2.2).bind fun bt410 => ((spec_LengthAfter.f bt407.1 bt407.2.1 bt407.2.2).bind fun bt412 => ((spec_DrawSourceOf.f x1).bind fun bt414 => ((impl_SourceOf.f bt414.1 bt414.2.1 bt414.2.2).bind fun bt417 => ((spec_SourceOf.f bt414.1 bt414.2.1 bt414.2.2).bind fun bt420 => ((spec_DrawLinesOfSame.f k x1).bind fun bt423 => ((impl_LinesOfSame.f k bt423.1 bt423.2).bind fun bt427 => ((spec_LinesOfSame.f k bt423.1 bt423.2).bind fun bt431 => ((spec_DrawLeastRatio.f x1).bind fun bt435 => ((impl_LeastRatio.f k bt435.1 bt435.2).bind fun bt437 => ((spec_LeastRatio.f k bt435.1 bt435.2).bind fun bt440 => (if (bt410.2 != bt412.2) = true then (some false) else (if bt410.1 = bt412.1 then (if (bt417.2.2 != bt420.2.2) = true then (some false) else (if bt417.1 = bt420.1 then (if bt417.2.1 = bt420.2.1 then (if (bt427.2 != bt431.2) = true then (some false) else ((laws_iSame.f k bt427.1 bt431.1).bind fun t443 => (if t443 = true then (if (bt437.2.2 != bt440.2.2) = true then (some false) else (if bt437.1 = bt440.1 then (if bt437.2.1 = bt440.2.1 then (if bt437.2.2 = true then (if (wrap64 (bt437.1 * bt435.2)) = (wrap64 (bt437.2.1 * bt435.1)) then ((laws_iCommon.f k bt437.1 bt437.2.1).bind fun t444 => (laws_FnRatesChanged.j7 k bt423.1 bt423.2 bt427.1 bt427.2 (t444 != 1))) else (some false)) else (laws_FnRatesChanged.j7 k bt423.1 bt423.2 bt427.1 bt427.2 false)) else (some false)) else (some false))) else (some false)))) else (some false)) else (some false))) else (some false))))))))))))))
def laws_FnRatesChanged.j7 : Nat → List Int → Int → List Int → Bool → Bool → Option (Bool)
 | 0, _, _, _, _, _ => none
 | k + 1, x50, x51, x52, x53, x504 => if x504 = true then (some false) else (if x53 = true then ((impl_LineSamples.f k x50 x51 1).bind fun bt445 => (if bt445.2 = true then ((laws_iSame.f k bt445.1 x52).bind fun t449 => (some t449)) else (some false))) else (some true))
def laws_FnRatesChanged.j1 : Nat → List Int → List Int → Int → Int → List Int → List Int → List Int → Bool → Bool → Option (Bool)
 | 0, _, _, _, _, _, _, _, _, _ => none
 | k + 1, x1, x5, x6, x7, x8, x12, x16, x17, x191 => if x191 = true then (some false) else (laws_FnRatesChanged.l0 k x1 x5 x6 x7 x8 x12 x16 x17 (x8.length : Int) 0)
def laws_FnRatesChanged.l0 : Nat → List Int → List Int → Int → Int → List Int → List Int → List Int → Bool → Int → Int → Option (Bool)
 | 0, _, _, _, _, _, _, _, _, _, _ => none
 | k + 1, x1, x5, x6, x7, x8, x12, x16, x17, x193, x194 => if x194 < x193 then ((impl_SourceOf.f x194 x6 x7).bind fun bt373 => (if bt373.2.2 = true then (if bt373.1 ≥ (x5.length : Int) then (some false) else (if (wrap64 ((wrap64 (bt373.1 * x6)) + bt373.2.1)) = (wrap64 (x194 * x7)) then (if 0 ≤ x194 then (if x194 < (x8.length : Int) then (if 0 ≤ bt373.1 then (if bt373.1 < (x5.length : Int) then (if (rd x8 x194) = (rd x5 bt373.1) then (if bt373.2.1 = 0 then (if x194 < (x12.length : Int) then (laws_FnRatesChanged.j3 k x1 x5 x6 x7 x8 x12 x16 x17 x194 bt373.1 bt373.2.1 x193 x194 ((rd x12 x194) != (rd x5 bt373.1))) else (none)) else (laws_FnRatesChanged.j3 k x1 x5 x6 x7 x8 x12 x16 x17 x194 bt373.1 bt373.2.1 x193 x194 false)) else (some false)) else (none)) else (none)) else (none)) else (none)) else (some false))) else (some false))) else ((impl_LeastRatio.f k x6 x7).bind fun bt399 => ((impl_HoldSamples.f k x5 bt399.1 bt399.2.1).bind fun bt402 => (if bt399.2.2 = true then (if bt402.2 = true then ((laws_iSame.f k bt402.1 x8).bind fun t406 => (if t406 = true then (laws_FnRatesChanged.j6 k x1) else (some false))) else (some false)) else (some false))))
def laws_FnRatesChanged.j3 : Nat → List Int → List Int → Int → Int → List Int → List Int → List Int → Bool → Int → Int → Int → Int → Int → Bool → Option (Bool)
 | 0, _, _, _, _, _, _, _, _, _, _, _, _, _, _ => none
 | k + 1, x1, x5, x6, x7, x8, x12, x16, x17, x22, x23, x24, x193, x194, x249 => if x249 = true then (some false) else (if (wrap64 (x23 + 1)) < (x5.length : Int) then (laws_FnRatesChanged.j4 k x1 x5 x6 x7 x8 x12 x16 x17 x22 x23 x24 (wrap64 (x23 + 1)) x193 x194) else (laws_FnRatesChanged.j4 k x1 x5 x6 x7 x8 x12 x16 x17 x22 x23 x24 x23 x193 x194))
def laws_FnRatesChanged.j4 : Nat → List Int → List Int → Int → Int → List Int → List Int → List Int → Bool → Int → Int → Int → Int → Int → Int → Option (Bool)
 | 0, _, _, _, _, _, _, _, _, _, _, _, _, _, _ => none
 | k + 1, x1, x5, x6, x7, x8, x12, x16, x17, x22, x23, x24, x26, x193, x194 => if 0 ≤ x22 then (if x22 < (x12.length : Int) then (if 0 ≤ x23 then (if x23 < (x5.length : Int) then (if (rd x12 x22) = (rd x5 x23) then (laws_FnRatesChanged.j5 k x1 x5 x6 x7 x8 x12 x16 x17 x22 x23 x24 x26 x193 x194 false) else (if 0 ≤ x26 then (if x26 < (x5.length : Int) then (laws_FnRatesChanged.j5 k x1 x5 x6 x7 x8 x12 x16 x17 x22 x23 x24 x26 x193 x194 ((rd x12 x22) != (rd x5 x26))) else (none)) else (none))) else (none)) else (none)) else (none)) else (none)
def laws_FnRatesChanged.j5 : Nat → List Int → List Int → Int → Int → List Int → List Int → List Int → Bool → Int → Int → Int → Int → Int → Int → Bool → Option (Bool)
 | 0, _, _, _, _, _, _, _, _, _, _, _, _, _, _, _ => none
 | k + 1, x1, x5, x6, x7, x8, x12, x16, x17, x22, x23, x24, x26, x193, x194, x277 => if x277 = true then (some false) else (if x17 = true then (if 0 ≤ x23 then (if x23 < (x5.length : Int) then (if 0 ≤ x26 then (if x26 < (x5.length : Int) then (if x24 = 0 then (if 0 ≤ x22 then (if x22 < (x16.length : Int) then (if (rd x16 x22) = (wrap64 (x6 * (rd x5 x23))) then (if (rd x16 x22) < (wrap64 (x6 * (rd x5 x23))) then (if (rd x16 x22) < (wrap64 (x6 * (rd x5 x26))) then (some false) else (if (rd x16 x22) > (wrap64 (x6 * (rd x5 x23))) then (if (rd x16 x22) > (wrap64 (x6 * (rd x5 x26))) then (some false) else (laws_FnRatesChanged.l0 k x1 x5 x6 x7 x8 x12 x16 x17 x193 (wrap64 (x194 + 1)))) else (laws_FnRatesChanged.l0 k x1 x5 x6 x7 x8 x12 x16 x17 x193 (wrap64 (x194 + 1))))) else (if (rd x16 x22) > (wrap64 (x6 * (rd x5 x23))) then (if (rd x16 x22) > (wrap64 (x6 * (rd x5 x26))) then (some false) else (laws_FnRatesChanged.l0 k x1 x5 x6 x7 x8 x12 x16 x17 x193 (wrap64 (x194 + 1)))) else (laws_FnRatesChanged.l0 k x1 x5 x6 x7 x8 x12 x16 x17 x193 (wrap64 (x194 + 1))))) else (some false)) else (none)) else (none)) else (if 0 ≤ x22 then (if x22 < (x16.length : Int) then (if (rd x16 x22) < (wrap64 (x6 * (rd x5 x23))) then (if (rd x16 x22) < (wrap64 (x6 * (rd x5 x26))) then (some false) else (if (rd x16 x22) > (wrap64 (x6 * (rd x5 x23))) then (if (rd x16 x22) > (wrap64 (x6 * (rd x5 x26))) then (some false) else (laws_FnRatesChanged.l0 k x1 x5 x6 x7 x8 x12 x16 x17 x193 (wrap64 (x194 + 1)))) else (laws_FnRatesChanged.l0 k x1 x5 x6 x7 x8 x12 x16 x17 x193 (wrap64 (x194 + 1))))) else (if (rd x16 x22) > (wrap64 (x6 * (rd x5 x23))) then (if (rd x16 x22) > (wrap64 (x6 * (rd x5 x26))) then (some false) else (laws_FnRatesChanged.l0 k x1 x5 x6 x7 x8 x12 x16 x17 x193 (wrap64 (x194 + 1)))) else (laws_FnRatesChanged.l0 k x1 x5 x6 x7 x8 x12 x16 x17 x193 (wrap64 (x194 + 1))))) else (none)) else (none))) else (none)) else (none)) else (none)) else (none)) else (laws_FnRatesChanged.l0 k x1 x5 x6 x7 x8 x12 x16 x17 x193 (wrap64 (x194 + 1))))
end
def laws_FnRatesChanged.f (k : Nat) (l0 : List Int) (l1 : List Int) : Option (Bool) := (laws_big.f l0 l1).bind fun t338 => (if t338 = true then (some true) else ((spec_DrawHoldSamples.f k l0).bind fun bt339 => ((impl_HoldSamples.f k bt339.1 bt339.2.1 bt339.2.2).bind fun bt344 => ((spec_HoldSamples.f k bt339.1 bt339.2.1 bt339.2.2).bind fun bt348 => ((impl_NearSamples.f k bt339.1 bt339.2.1 bt339.2.2).bind fun bt352 => ((spec_NearSamples.f k bt339.1 bt339.2.1 bt339.2.2).bind fun bt356 => ((impl_LineSamples.f k bt339.1 bt339.2.1 bt339.2.2).bind fun bt360 => ((spec_LineSamples.f k bt339.1 bt339.2.1 bt339.2.2).bind fun bt364 => (if (bt344.2 != bt348.2) = true then (some false) else ((laws_iSame.f k bt344.1 bt348.1).bind fun t368 => (if t368 = true then (if (bt352.2 != bt356.2) = true then (some false) else ((laws_iSame.f k bt352.1 bt356.1).bind fun t369 => (if t369 = true then (if (bt360.2 != bt364.2) = true then (some false) else ((laws_iSame.f k bt360.1 bt364.1).bind fun t370 => (if t370 = true then (if (bt352.2 != bt344.2) = true then (some false) else (if bt360.2 = true then (laws_FnRatesChanged.j0 k l1 bt339.1 bt339.2.1 bt339.2.2 bt344.1 bt344.2 bt352.1 bt360.1 bt360.2 (!bt344.2)) else (laws_FnRatesChanged.j0 k l1 bt339.1 bt339.2.1 bt339.2.2 bt344.1 bt344.2 bt352.1 bt360.1 bt360.2 false))) else (some false)))) else (some false)))) else (some false))))))))))))

set_option maxHeartbeats 80000000 in
set_option maxRecDepth 100000 in
theorem laws_FnRatesChanged.calls (k : Nat) (A0 : Option Addr) (c0 : Nat) (l0 : List Int) (A1 : Option Addr) (c1 : Nat) (l1 : List Int) (r : Bool) (w : World) (hr0 : Kd.C (Kd.int .u8) w A0 l0.length l0) (hc0 : l0.length ≤ c0) (hr1 : Kd.C (Kd.int .u8) w A1 l1.length l1) (hc1 : l1.length ≤ c1) (hT : r = true) (h : laws_FnRatesChanged.f k l0 l1 = some r) :
  Calls Try.prog 3 #[.slice A0 l0.length c0, .slice A1 l1.length c1] w fun e w' => e = .returned (.bool r) ∧ Below w.heap.size w w' := by
 have HR0 := Aside0.mk hr0
 have HC0 := Aside0.mk hc0
 clear hr0 hc0
 have HR1 := Aside0.mk hr1
 have HC1 := Aside0.mk hc1
 clear hr1 hc1
 have HT := Aside0.mk hT
 clear hT
 have hun : ∀ b_ : Bool, (Go.undef = Value.bool b_) = False := fun b_ => by simp [Go.undef]
 have HB := Aside0.mk (Below.refl w.heap.size w)
 have H : ((laws_big.f l0 l1).bind fun t338 => (if t338 = true then (some true) else ((spec_DrawHoldSamples.f k l0).bind fun bt339 => ((impl_HoldSamples.f k bt339.1 bt339.2.1 bt339.2.2).bind fun bt344 => ((spec_HoldSamples.f k bt339.1 bt339.2.1 bt339.2.2).bind fun bt348 => ((impl_NearSamples.f k bt339.1 bt339.2.1 bt339.2.2).bind fun bt352 => ((spec_NearSamples.f k bt339.1 bt339.2.1 bt339.2.2).bind fun bt356 => ((impl_LineSamples.f k bt339.1 bt339.2.1 bt339.2.2).bind fun bt360 => ((spec_LineSamples.f k bt339.1 bt339.2.1 bt339.2.2).bind fun bt364 => (if (bt344.2 != bt348.2) = true then (some false) else ((laws_iSame.f k bt344.1 bt348.1).bind fun t368 => (if t368 = true then (if (bt352.2 != bt356.2) = true then (some false) else ((laws_iSame.f k bt352.1 bt356.1).bind fun t369 => (if t369 = true then (if (bt360.2 != bt364.2) = true then (some false) else ((laws_iSame.f k bt360.1 bt364.1).bind fun t370 => (if t370 = true then (if (bt352.2 != bt344.2) = true then (some false) else (if bt360.2 = true then (laws_FnRatesChanged.j0 k l1 bt339.1 bt339.2.1 bt339.2.2 bt344.1 bt344.2 bt352.1 bt360.1 bt360.2 (!bt344.2)) else (laws_FnRatesChanged.j0 k l1 bt339.1 bt339.2.1 bt339.2.2 bt344.1 bt344.2 bt352.1 bt360.1 bt360.2 false))) else (some false)))) else (some false)))) else (some false))))))))))))) = some r := h
 clear h
 replace H := Option.bind_eq_some_iff.mp H
 obtain ⟨t338, A30, H⟩ := H
 replace H : (if t338 = true then (some true) else ((spec_DrawHoldSamples.f k l0).bind fun bt339 => ((impl_HoldSamples.f k bt339.1 bt339.2.1 bt339.2.2).bind fun bt344 => ((spec_HoldSamples.f k bt339.1 bt339.2.1 bt339.2.2).bind fun bt348 => ((impl_NearSamples.f k bt339.1 bt339.2.1 bt339.2.2).bind fun bt352 => ((spec_NearSamples.f k bt339.1 bt339.2.1 bt339.2.2).bind fun bt356 => ((impl_LineSamples.f k bt339.1 bt339.2.1 bt339.2.2).bind fun bt360 => ((spec_LineSamples.f k bt339.1 bt339.2.1 bt339.2.2).bind fun bt364 => (if (bt344.2 != bt348.2) = true then (some false) else ((laws_iSame.f k bt344.1 bt348.1).bind fun t368 => (if t368 = true then (if (bt352.2 != bt356.2) = true then (some false) else ((laws_iSame.f k bt352.1 bt356.1).bind fun t369 => (if t369 = true then (if (bt360.2 != bt364.2) = true then (some false) else ((laws_iSame.f k bt360.1 bt364.1).bind fun t370 => (if t370 = true then (if (bt352.2 != bt344.2) = true then (some false) else (if bt360.2 = true then (laws_FnRatesChanged.j0 k l1 bt339.1 bt339.2.1 bt339.2.2 bt344.1 bt344.2 bt352.1 bt360.1 bt360.2 (!bt344.2)) else (laws_FnRatesChanged.j0 k l1 bt339.1 bt339.2.1 bt339.2.2 bt344.1 bt344.2 bt352.1 bt360.1 bt360.2 false))) else (some false)))) else (some false)))) else (some false)))))))))))) = some r := H
 have A3 := Aside0.mk A30
 clear A30
 by_cases c4 : t338 = true
 ·subst c4
  have H1 : (some true) = some r := by rw [if_pos rfl] at H; exact H
  clear H
  have H := H1
  clear H1
  obtain rfl := Option.some.inj H
  go_enter Try.func3, Try.ntmps3
  go_wp2_with (first | (go_at_call 6; (with_reducible refine (laws_big.calls _ _ l0 _ _ l1 true _ ?side1 ?side2 ?side3 ?side4 A3.out).mono ?_); (case side1 => repeat (first | exact HR0.out | (with_reducible refine Kd.C_alloc ?_ _) | (with_reducible refine Kd.C_drewN ?_ _) | (with_reducible refine Kd.C_drew ?_))); (case side2 => exact HC0.out); (case side3 => repeat (first | exact HR1.out | (with_reducible refine Kd.C_alloc ?_ _) | (with_reducible refine Kd.C_drewN ?_ _) | (with_reducible refine Kd.C_drew ?_))); (case side4 => exact HC1.out); rintro e w' ⟨rfl, ⟨nd, rfl⟩⟩; (try first | exact ⟨rfl, _, World.drewN_drewN _ _ _⟩ | exact ⟨rfl, _, Eq.trans (World.drewN_drewN _ _ _) (congrArg (World.drewN _) (Nat.add_assoc _ _ _))⟩)))
  go_ret
  exact ⟨by first | rfl | (simp [errW_none, errW_some] <;> rfl) | (simp [*, errW_none, errW_some] <;> rfl), by repeat (first | (with_reducible first | exact HB.out | apply below_alloc | apply pw_below_drewN | apply below_drew1) | exact HB.out)⟩
 ·replace c4 := Bool.eq_false_iff.mpr c4
  subst c4
  have H1 : ((spec_DrawHoldSamples.f k l0).bind fun bt339 => ((impl_HoldSamples.f k bt339.1 bt339.2.1 bt339.2.2).bind fun bt344 => ((spec_HoldSamples.f k bt339.1 bt339.2.1 bt339.2.2).bind fun bt348 => ((impl_NearSamples.f k bt339.1 bt339.2.1 bt339.2.2).bind fun bt352 => ((spec_NearSamples.f k bt339.1 bt339.2.1 bt339.2.2).bind fun bt356 => ((impl_LineSamples.f k bt339.1 bt339.2.1 bt339.2.2).bind fun bt360 => ((spec_LineSamples.f k bt339.1 bt339.2.1 bt339.2.2).bind fun bt364 => (if (bt344.2 != bt348.2) = true then (some false) else ((laws_iSame.f k bt344.1 bt348.1).bind fun t368 => (if t368 = true then (if (bt352.2 != bt356.2) = true then (some false) else ((laws_iSame.f k bt352.1 bt356.1).bind fun t369 => (if t369 = true then (if (bt360.2 != bt364.2) = true then (some false) else ((laws_iSame.f k bt360.1 bt364.1).bind fun t370 => (if t370 = true then (if (bt352.2 != bt344.2) = true then (some false) else (if bt360.2 = true then (laws_FnRatesChanged.j0 k l1 bt339.1 bt339.2.1 bt339.2.2 bt344.1 bt344.2 bt352.1 bt360.1 bt360.2 (!bt344.2)) else (laws_FnRatesChanged.j0 k l1 bt339.1 bt339.2.1 bt339.2.2 bt344.1 bt344.2 bt352.1 bt360.1 bt360.2 false))) else (some false)))) else (some false)))) else (some false))))))))))) = some r := by rw [if_neg (show ¬ (false = true) by decide)] at H; exact H
  clear H
  have H := H1
  clear H1
  replace H := Option.bind_eq_some_iff.mp H
  obtain ⟨⟨t339, t340, t341⟩, A50, H⟩ := H
  replace H : ((impl_HoldSamples.f k t339 t340 t341).bind fun bt344 => ((spec_HoldSamples.f k t339 t340 t341).bind fun bt348 => ((impl_NearSamples.f k t339 t340 t341).bind fun bt352 => ((spec_NearSamples.f k t339 t340 t341).bind fun bt356 => ((impl_LineSamples.f k t339 t340 t341).bind fun bt360 => ((spec_LineSamples.f k t339 t340 t341).bind fun bt364 => (if (bt344.2 != bt348.2) = true then (some false) else ((laws_iSame.f k bt344.1 bt348.1).bind fun t368 => (if t368 = true then (if (bt352.2 != bt356.2) = true then (some false) else ((laws_iSame.f k bt352.1 bt356.1).bind fun t369 => (if t369 = true then (if (bt360.2 != bt364.2) = true then (some false) else ((laws_iSame.f k bt360.1 bt364.1).bind fun t370 => (if t370 = true then (if (bt352.2 != bt344.2) = true then (some false) else (if bt360.2 = true then (laws_FnRatesChanged.j0 k l1 t339 t340 t341 bt344.1 bt344.2 bt352.1 bt360.1 bt360.2 (!bt344.2)) else (laws_FnRatesChanged.j0 k l1 t339 t340 t341 bt344.1 bt344.2 bt352.1 bt360.1 bt360.2 false))) else (some false)))) else (some false)))) else (some false)))))))))) = some r := H
  have A5 := Aside0.mk A50
  clear A50
  replace H := Option.bind_eq_some_iff.mp H
  obtain ⟨⟨t344, t345⟩, A60, H⟩ := H
  replace H : ((spec_HoldSamples.f k t339 t340 t341).bind fun bt348 => ((impl_NearSamples.f k t339 t340 t341).bind fun bt352 => ((spec_NearSamples.f k t339 t340 t341).bind fun bt356 => ((impl_LineSamples.f k t339 t340 t341).bind fun bt360 => ((spec_LineSamples.f k t339 t340 t341).bind fun bt364 => (if (t345 != bt348.2) = true then (some false) else ((laws_iSame.f k t344 bt348.1).bind fun t368 => (if t368 = true then (if (bt352.2 != bt356.2) = true then (some false) else ((laws_iSame.f k bt352.1 bt356.1).bind fun t369 => (if t369 = true then (if (bt360.2 != bt364.2) = true then (some false) else ((laws_iSame.f k bt360.1 bt364.1).bind fun t370 => (if t370 = true then (if (bt352.2 != t345) = true then (some false) else (if bt360.2 = true then (laws_FnRatesChanged.j0 k l1 t339 t340 t341 t344 t345 bt352.1 bt360.1 bt360.2 (!t345)) else (laws_FnRatesChanged.j0 k l1 t339 t340 t341 t344 t345 bt352.1 bt360.1 bt360.2 false))) else (some false)))) else (some false)))) else (some false))))))))) = some r := H
  have A6 := Aside0.mk A60
  clear A60
  replace H := Option.bind_eq_some_iff.mp H
  obtain ⟨⟨t348, t349⟩, A70, H⟩ := H
  replace H : ((impl_NearSamples.f k t339 t340 t341).bind fun bt352 => ((spec_NearSamples.f k t339 t340 t341).bind fun bt356 => ((impl_LineSamples.f k t339 t340 t341).bind fun bt360 => ((spec_LineSamples.f k t339 t340 t341).bind fun bt364 => (if (t345 != t349) = true then (some false) else ((laws_iSame.f k t344 t348).bind fun t368 => (if t368 = true then (if (bt352.2 != bt356.2) = true then (some false) else ((laws_iSame.f k bt352.1 bt356.1).bind fun t369 => (if t369 = true then (if (bt360.2 != bt364.2) = true then (some false) else ((laws_iSame.f k bt360.1 bt364.1).bind fun t370 => (if t370 = true then (if (bt352.2 != t345) = true then (some false) else (if bt360.2 = true then (laws_FnRatesChanged.j0 k l1 t339 t340 t341 t344 t345 bt352.1 bt360.1 bt360.2 (!t345)) else (laws_FnRatesChanged.j0 k l1 t339 t340 t341 t344 t345 bt352.1 bt360.1 bt360.2 false))) else (some false)))) else (some false)))) else (some false)))))))) = some r := H
  have A7 := Aside0.mk A70
  clear A70
  replace H := Option.bind_eq_some_iff.mp H
  obtain ⟨⟨t352, t353⟩, A80, H⟩ := H
  replace H : ((spec_NearSamples.f k t339 t340 t341).bind fun bt356 => ((impl_LineSamples.f k t339 t340 t341).bind fun bt360 => ((spec_LineSamples.f k t339 t340 t341).bind fun bt364 => (if (t345 != t349) = true then (some false) else ((laws_iSame.f k t344 t348).bind fun t368 => (if t368 = true then (if (t353 != bt356.2) = true then (some false) else ((laws_iSame.f k t352 bt356.1).bind fun t369 => (if t369 = true then (if (bt360.2 != bt364.2) = true then (some false) else ((laws_iSame.f k bt360.1 bt364.1).bind fun t370 => (if t370 = true then (if (t353 != t345) = true then (some false) else (if bt360.2 = true then (laws_FnRatesChanged.j0 k l1 t339 t340 t341 t344 t345 t352 bt360.1 bt360.2 (!t345)) else (laws_FnRatesChanged.j0 k l1 t339 t340 t341 t344 t345 t352 bt360.1 bt360.2 false))) else (some false)))) else (some false)))) else (some false))))))) = some r := H
  have A8 := Aside0.mk A80
  clear A80
  replace H := Option.bind_eq_some_iff.mp H
  obtain ⟨⟨t356, t357⟩, A90, H⟩ := H
  replace H : ((impl_LineSamples.f k t339 t340 t341).bind fun bt360 => ((spec_LineSamples.f k t339 t340 t341).bind fun bt364 => (if (t345 != t349) = true then (some false) else ((laws_iSame.f k t344 t348).bind fun t368 => (if t368 = true then (if (t353 != t357) = true then (some false) else ((laws_iSame.f k t352 t356).bind fun t369 => (if t369 = true then (if (bt360.2 != bt364.2) = true then (some false) else ((laws_iSame.f k bt360.1 bt364.1).bind fun t370 => (if t370 = true then (if (t353 != t345) = true then (some false) else (if bt360.2 = true then (laws_FnRatesChanged.j0 k l1 t339 t340 t341 t344 t345 t352 bt360.1 bt360.2 (!t345)) else (laws_FnRatesChanged.j0 k l1 t339 t340 t341 t344 t345 t352 bt360.1 bt360.2 false))) else (some false)))) else (some false)))) else (some false)))))) = some r := H
  have A9 := Aside0.mk A90
  clear A90
  replace H := Option.bind_eq_some_iff.mp H
  obtain ⟨⟨t360, t361⟩, A100, H⟩ := H
  replace H : ((spec_LineSamples.f k t339 t340 t341).bind fun bt364 => (if (t345 != t349) = true then (some false) else ((laws_iSame.f k t344 t348).bind fun t368 => (if t368 = true then (if (t353 != t357) = true then (some false) else ((laws_iSame.f k t352 t356).bind fun t369 => (if t369 = true then (if (t361 != bt364.2) = true then (some false) else ((laws_iSame.f k t360 bt364.1).bind fun t370 => (if t370 = true then (if (t353 != t345) = true then (some false) else (if t361 = true then (laws_FnRatesChanged.j0 k l1 t339 t340 t341 t344 t345 t352 t360 t361 (!t345)) else (laws_FnRatesChanged.j0 k l1 t339 t340 t341 t344 t345 t352 t360 t361 false))) else (some false)))) else (some false)))) else (some false))))) = some r := H
  have A10 := Aside0.mk A100
  clear A100
  replace H := Option.bind_eq_some_iff.mp H
  obtain ⟨⟨t364, t365⟩, A110, H⟩ := H
  replace H : (if (t345 != t349) = true then (some false) else ((laws_iSame.f k t344 t348).bind fun t368 => (if t368 = true then (if (t353 != t357) = true then (some false) else ((laws_iSame.f k t352 t356).bind fun t369 => (if t369 = true then (if (t361 != t365) = true then (some false) else ((laws_iSame.f k t360 t364).bind fun t370 => (if t370 = true then (if (t353 != t345) = true then (some false) else (if t361 = true then (laws_FnRatesChanged.j0 k l1 t339 t340 t341 t344 t345 t352 t360 t361 (!t345)) else (laws_FnRatesChanged.j0 k l1 t339 t340 t341 t344 t345 t352 t360 t361 false))) else (some false)))) else (some false)))) else (some false)))) = some r := H
  have A11 := Aside0.mk A110
  clear A110
  have HC12 := Aside0.mk H
  clear H
  go_enter Try.func3, Try.ntmps3
  go_upto_region 10 with (first | (go_at_call 6; (with_reducible refine (laws_big.calls _ _ l0 _ _ l1 false _ ?side1 ?side2 ?side3 ?side4 A3.out).mono ?_); (case side1 => repeat (first | exact HR0.out | (with_reducible refine Kd.C_alloc ?_ _) | (with_reducible refine Kd.C_drewN ?_ _) | (with_reducible refine Kd.C_drew ?_))); (case side2 => exact HC0.out); (case side3 => repeat (first | exact HR1.out | (with_reducible refine Kd.C_alloc ?_ _) | (with_reducible refine Kd.C_drewN ?_ _) | (with_reducible refine Kd.C_drew ?_))); (case side4 => exact HC1.out); rintro e w' ⟨rfl, ⟨nd, rfl⟩⟩; (try first | exact ⟨rfl, _, World.drewN_drewN _ _ _⟩ | exact ⟨rfl, _, Eq.trans (World.drewN_drewN _ _ _) (congrArg (World.drewN _) (Nat.add_assoc _ _ _))⟩)) | (go_at_call 7; (with_reducible refine (spec_DrawHoldSamples.calls k _ _ l0 t339 t340 t341 _ ?side1 ?side2 A5.out).mono ?_); (case side1 => repeat (first | exact HR0.out | (with_reducible refine Kd.C_alloc ?_ _) | (with_reducible refine Kd.C_drewN ?_ _) | (with_reducible refine Kd.C_drew ?_))); (case side2 => exact HC0.out); rintro e w13 ⟨v342, rfl, ho0, hb⟩; have n0_ := Aside0.mk (Kd.R_lower ho0 (below_size (by repeat (first | (with_reducible first | exact HB.out | apply below_alloc | apply pw_below_drewN | apply below_drew1) | exact HB.out)))); have n1_ := Aside0.mk (below_step (by repeat (first | (with_reducible first | exact HB.out | apply below_alloc | apply pw_below_drewN | apply below_drew1) | exact HB.out)) hb); clear HB; have HO343 := n0_; have HB := n1_; clear n0_ n1_; (try clear hb); (try clear hb2); (try clear hk); (try clear hi); (try clear ho0); obtain ⟨Ao14, co14, eo14⟩ := Kd.R_slice HO343.out; subst eo14) | (go_at_call 8; (with_reducible refine (impl_HoldSamples.calls k _ _ t339 t340 t341 t344 t345 _ ?side1 ?side2 A6.out).mono ?_); (case side1 => repeat (first | exact (Kd.R_reads' HO343.out).2.2 | (with_reducible refine Kd.C_alloc ?_ _) | (with_reducible refine Kd.C_drewN ?_ _) | (with_reducible refine Kd.C_drew ?_))); (case side2 => exact (Kd.R_reads' HO343.out).2.1); rintro e w15 ⟨v346, rfl, ho0, hb⟩; have n0_ := Aside0.mk (Kd.R_elder' (by (with_reducible repeat (first | apply Kd.R_alloc | apply Kd.R_drewN | apply Kd.R_drew)); exact HO343.out) (Kd.R_base ho0) hb); have n1_ := Aside0.mk (Kd.R_lower (Kd.R_new' ho0 (Kd.R_lt (by (with_reducible repeat (first | apply Kd.R_alloc | apply Kd.R_drewN | apply Kd.R_drew)); exact HO343.out))) (below_size (by repeat (first | (with_reducible first | exact HB.out | apply below_alloc | apply pw_below_drewN | apply below_drew1) | exact HB.out)))); have n2_ := Aside0.mk (below_step (by repeat (first | (with_reducible first | exact HB.out | apply below_alloc | apply pw_below_drewN | apply below_drew1) | exact HB.out)) hb); clear HO343; clear HB; have HO343 := n0_; have HO347 := n1_; have HB := n2_; clear n0_ n1_ n2_; (try clear hb); (try clear hb2); (try clear hk); (try clear hi); (try clear ho0)) | (go_at_call 9; (with_reducible refine (spec_HoldSamples.calls k _ _ t339 t340 t341 t348 t349 _ ?side1 ?side2 A7.out).mono ?_); (case side1 => repeat (first | exact (Kd.R_reads' HO343.out).2.2 | (with_reducible refine Kd.C_alloc ?_ _) | (with_reducible refine Kd.C_drewN ?_ _) | (with_reducible refine Kd.C_drew ?_))); (case side2 => exact (Kd.R_reads' HO343.out).2.1); rintro e w16 ⟨v350, rfl, ho0, hb⟩; have n0_ := Aside0.mk (Kd.R_elder' (by (with_reducible repeat (first | apply Kd.R_alloc | apply Kd.R_drewN | apply Kd.R_drew)); exact HO343.out) (Kd.R_base ho0) hb); have n1_ := Aside0.mk (Kd.R_elder' (by (with_reducible repeat (first | apply Kd.R_alloc | apply Kd.R_drewN | apply Kd.R_drew)); exact HO347.out) (Kd.R_base ho0) hb); have n2_ := Aside0.mk (Kd.R_lower (Kd.R_new' (Kd.R_new' ho0 (Kd.R_lt (by (with_reducible repeat (first | apply Kd.R_alloc | apply Kd.R_drewN | apply Kd.R_drew)); exact HO343.out))) (Kd.R_lt (by (with_reducible repeat (first | apply Kd.R_alloc | apply Kd.R_drewN | apply Kd.R_drew)); exact HO347.out))) (below_size (by repeat (first | (with_reducible first | exact HB.out | apply below_alloc | apply pw_below_drewN | apply below_drew1) | exact HB.out)))); have n3_ := Aside0.mk (below_step (by repeat (first | (with_reducible first | exact HB.out | apply below_alloc | apply pw_below_drewN | apply below_drew1) | exact HB.out)) hb); clear HO343; clear HO347; clear HB; have HO343 := n0_; have HO347 := n1_; have HO351 := n2_; have HB := n3_; clear n0_ n1_ n2_ n3_; (try clear hb); (try clear hb2); (try clear hk); (try clear hi); (try clear ho0)) | (go_at_call 10; (with_reducible refine (impl_NearSamples.calls k _ _ t339 t340 t341 t352 t353 _ ?side1 ?side2 A8.out).mono ?_); (case side1 => repeat (first | exact (Kd.R_reads' HO343.out).2.2 | (with_reducible refine Kd.C_alloc ?_ _) | (with_reducible refine Kd.C_drewN ?_ _) | (with_reducible refine Kd.C_drew ?_))); (case side2 => exact (Kd.R_reads' HO343.out).2.1); rintro e w17 ⟨v354, rfl, ho0, hb⟩; have n0_ := Aside0.mk (Kd.R_elder' (by (with_reducible repeat (first | apply Kd.R_alloc | apply Kd.R_drewN | apply Kd.R_drew)); exact HO343.out) (Kd.R_base ho0) hb); have n1_ := Aside0.mk (Kd.R_elder' (by (with_reducible repeat (first | apply Kd.R_alloc | apply Kd.R_drewN | apply Kd.R_drew)); exact HO347.out) (Kd.R_base ho0) hb); have n2_ := Aside0.mk (Kd.R_elder' (by (with_reducible repeat (first | apply Kd.R_alloc | apply Kd.R_drewN | apply Kd.R_drew)); exact HO351.out) (Kd.R_base ho0) hb); have n3_ := Aside0.mk (Kd.R_lower (Kd.R_new' (Kd.R_new' (Kd.R_new' ho0 (Kd.R_lt (by (with_reducible repeat (first | apply Kd.R_alloc | apply Kd.R_drewN | apply Kd.R_drew)); exact HO343.out))) (Kd.R_lt (by (with_reducible repeat (first | apply Kd.R_alloc | apply Kd.R_drewN | apply Kd.R_drew)); exact HO347.out))) (Kd.R_lt (by (with_reducible repeat (first | apply Kd.R_alloc | apply Kd.R_drewN | apply Kd.R_drew)); exact HO351.out))) (below_size (by repeat (first | (with_reducible first | exact HB.out | apply below_alloc | apply pw_below_drewN | apply below_drew1) | exact HB.out)))); have n4_ := Aside0.mk (below_step (by repeat (first | (with_reducible first | exact HB.out | apply below_alloc | apply pw_below_drewN | apply below_drew1) | exact HB.out)) hb); clear HO343; clear HO347; clear HO351; clear HB; have HO343 := n0_; have HO347 := n1_; have HO351 := n2_; have HO355 := n3_; have HB := n4_; clear n0_ n1_ n2_ n3_ n4_; (try clear hb); (try clear hb2); (try clear hk); (try clear hi); (try clear ho0)) | (go_at_call 11; (with_reducible refine (spec_NearSamples.calls k _ _ t339 t340 t341 t356 t357 _ ?side1 ?side2 A9.out).mono ?_); (case side1 => repeat (first | exact (Kd.R_reads' HO343.out).2.2 | (with_reducible refine Kd.C_alloc ?_ _) | (with_reducible refine Kd.C_drewN ?_ _) | (with_reducible refine Kd.C_drew ?_))); (case side2 => exact (Kd.R_reads' HO343.out).2.1); rintro e w18 ⟨v358, rfl, ho0, hb⟩; have n0_ := Aside0.mk (Kd.R_elder' (by (with_reducible repeat (first | apply Kd.R_alloc | apply Kd.R_drewN | apply Kd.R_drew)); exact HO343.out) (Kd.R_base ho0) hb); have n1_ := Aside0.mk (Kd.R_elder' (by (with_reducible repeat (first | apply Kd.R_alloc | apply Kd.R_drewN | apply Kd.R_drew)); exact HO347.out) (Kd.R_base ho0) hb); have n2_ := Aside0.mk (Kd.R_elder' (by (with_reducible repeat (first | apply Kd.R_alloc | apply Kd.R_drewN | apply Kd.R_drew)); exact HO351.out) (Kd.R_base ho0) hb); have n3_ := Aside0.mk (Kd.R_elder' (by (with_reducible repeat (first | apply Kd.R_alloc | apply Kd.R_drewN | apply Kd.R_drew)); exact HO355.out) (Kd.R_base ho0) hb); have n4_ := Aside0.mk (Kd.R_lower (Kd.R_new' (Kd.R_new' (Kd.R_new' (Kd.R_new' ho0 (Kd.R_lt (by (with_reducible repeat (first | apply Kd.R_alloc | apply Kd.R_drewN | apply Kd.R_drew)); exact HO343.out))) (Kd.R_lt (by (with_reducible repeat (first | apply Kd.R_alloc | apply Kd.R_drewN | apply Kd.R_drew)); exact HO347.out))) (Kd.R_lt (by (with_reducible repeat (first | apply Kd.R_alloc | apply Kd.R_drewN | apply Kd.R_drew)); exact HO351.out))) (Kd.R_lt (by (with_reducible repeat (first | apply Kd.R_alloc | apply Kd.R_drewN | apply Kd.R_drew)); exact HO355.out))) (below_size (by repeat (first | (with_reducible first | exact HB.out | apply below_alloc | apply pw_below_drewN | apply below_drew1) | exact HB.out)))); have n5_ := Aside0.mk (below_step (by repeat (first | (with_reducible first | exact HB.out | apply below_alloc | apply pw_below_drewN | apply below_drew1) | exact HB.out)) hb); clear HO343; clear HO347; clear HO351; clear HO355; clear HB; have HO343 := n0_; have HO347 := n1_; have HO351 := n2_; have HO355 := n3_; have HO359 := n4_; have HB := n5_; clear n0_ n1_ n2_ n3_ n4_ n5_; (try clear hb); (try clear hb2); (try clear hk); (try clear hi); (try clear ho0)) | (go_at_call 12; (with_reducible refine (impl_LineSamples.calls k _ _ t339 t340 t341 t360 t361 _ ?side1 ?side2 A10.out).mono ?_); (case side1 => repeat (first | exact (Kd.R_reads' HO343.out).2.2 | (with_reducible refine Kd.C_alloc ?_ _) | (with_reducible refine Kd.C_drewN ?_ _) | (with_reducible refine Kd.C_drew ?_))); (case side2 => exact (Kd.R_reads' HO343.out).2.1); rintro e w19 ⟨v362, rfl, ho0, hb⟩; have n0_ := Aside0.mk (Kd.R_elder' (by (with_reducible repeat (first | apply Kd.R_alloc | apply Kd.R_drewN | apply Kd.R_drew)); exact HO343.out) (Kd.R_base ho0) hb); have n1_ := Aside0.mk (Kd.R_elder' (by (with_reducible repeat (first | apply Kd.R_alloc | apply Kd.R_drewN | apply Kd.R_drew)); exact HO347.out) (Kd.R_base ho0) hb); have n2_ := Aside0.mk (Kd.R_elder' (by (with_reducible repeat (first | apply Kd.R_alloc | apply Kd.R_drewN | apply Kd.R_drew)); exact HO351.out) (Kd.R_base ho0) hb); have n3_ := Aside0.mk (Kd.R_elder' (by (with_reducible repeat (first | apply Kd.R_alloc | apply Kd.R_drewN | apply Kd.R_drew)); exact HO355.out) (Kd.R_base ho0) hb); have n4_ := Aside0.mk (Kd.R_elder' (by (with_reducible repeat (first | apply Kd.R_alloc | apply Kd.R_drewN | apply Kd.R_drew)); exact HO359.out) (Kd.R_base ho0) hb); have n5_ := Aside0.mk (Kd.R_lower (Kd.R_new' (Kd.R_new' (Kd.R_new' (Kd.R_new' (Kd.R_new' ho0 (Kd.R_lt (by (with_reducible repeat (first | apply Kd.R_alloc | apply Kd.R_drewN | apply Kd.R_drew)); exact HO343.out))) (Kd.R_lt (by (with_reducible repeat (first | apply Kd.R_alloc | apply Kd.R_drewN | apply Kd.R_drew)); exact HO347.out))) (Kd.R_lt (by (with_reducible repeat (first | apply Kd.R_alloc | apply Kd.R_drewN | apply Kd.R_drew)); exact HO351.out))) (Kd.R_lt (by (with_reducible repeat (first | apply Kd.R_alloc | apply Kd.R_drewN | apply Kd.R_drew)); exact HO355.out))) (Kd.R_lt (by (with_reducible repeat (first | apply Kd.R_alloc | apply Kd.R_drewN | apply Kd.R_drew)); exact HO359.out))) (below_size (by repeat (first | (with_reducible first | exact HB.out | apply below_alloc | apply pw_below_drewN | apply below_drew1) | exact HB.out)))); have n6_ := Aside0.mk (below_step (by repeat (first | (with_reducible first | exact HB.out | apply below_alloc | apply pw_below_drewN | apply below_drew1) | exact HB.out)) hb); clear HO343; clear HO347; clear HO351; clear HO355; clear HO359; clear HB; have HO343 := n0_; have HO347 := n1_; have HO351 := n2_; have HO355 := n3_; have HO359 := n4_; have HO363 := n5_; have HB := n6_; clear n0_ n1_ n2_ n3_ n4_ n5_ n6_; (try clear hb); (try clear hb2); (try clear hk); (try clear hi); (try clear ho0)) | (go_at_call 13; (with_reducible refine (spec_LineSamples.calls k _ _ t339 t340 t341 t364 t365 _ ?side1 ?side2 A11.out).mono ?_); (case side1 => repeat (first | exact (Kd.R_reads' HO343.out).2.2 | (with_reducible refine Kd.C_alloc ?_ _) | (with_reducible refine Kd.C_drewN ?_ _) | (with_reducible refine Kd.C_drew ?_))); (case side2 => exact (Kd.R_reads' HO343.out).2.1); rintro e w20 ⟨v366, rfl, ho0, hb⟩; have n0_ := Aside0.mk (Kd.R_elder' (by (with_reducible repeat (first | apply Kd.R_alloc | apply Kd.R_drewN | apply Kd.R_drew)); exact HO343.out) (Kd.R_base ho0) hb); have n1_ := Aside0.mk (Kd.R_elder' (by (with_reducible repeat (first | apply Kd.R_alloc | apply Kd.R_drewN | apply Kd.R_drew)); exact HO347.out) (Kd.R_base ho0) hb); have n2_ := Aside0.mk (Kd.R_elder' (by (with_reducible repeat (first | apply Kd.R_alloc | apply Kd.R_drewN | apply Kd.R_drew)); exact HO351.out) (Kd.R_base ho0) hb); have n3_ := Aside0.mk (Kd.R_elder' (by (with_reducible repeat (first | apply Kd.R_alloc | apply Kd.R_drewN | apply Kd.R_drew)); exact HO355.out) (Kd.R_base ho0) hb); have n4_ := Aside0.mk (Kd.R_elder' (by (with_reducible repeat (first | apply Kd.R_alloc | apply Kd.R_drewN | apply Kd.R_drew)); exact HO359.out) (Kd.R_base ho0) hb); have n5_ := Aside0.mk (Kd.R_elder' (by (with_reducible repeat (first | apply Kd.R_alloc | apply Kd.R_drewN | apply Kd.R_drew)); exact HO363.out) (Kd.R_base ho0) hb); have n6_ := Aside0.mk (Kd.R_lower (Kd.R_new' (Kd.R_new' (Kd.R_new' (Kd.R_new' (Kd.R_new' (Kd.R_new' ho0 (Kd.R_lt (by (with_reducible repeat (first | apply Kd.R_alloc | apply Kd.R_drewN | apply Kd.R_drew)); exact HO343.out))) (Kd.R_lt (by (with_reducible repeat (first | apply Kd.R_alloc | apply Kd.R_drewN | apply Kd.R_drew)); exact HO347.out))) (Kd.R_lt (by (with_reducible repeat (first | apply Kd.R_alloc | apply Kd.R_drewN | apply Kd.R_drew)); exact HO351.out))) (Kd.R_lt (by (with_reducible repeat (first | apply Kd.R_alloc | apply Kd.R_drewN | apply Kd.R_drew)); exact HO355.out))) (Kd.R_lt (by (with_reducible repeat (first | apply Kd.R_alloc | apply Kd.R_drewN | apply Kd.R_drew)); exact HO359.out))) (Kd.R_lt (by (with_reducible repeat (first | apply Kd.R_alloc | apply Kd.R_drewN | apply Kd.R_drew)); exact HO363.out))) (below_size (by repeat (first | (with_reducible first | exact HB.out | apply below_alloc | apply pw_below_drewN | apply below_drew1) | exact HB.out)))); have n7_ := Aside0.mk (below_step (by repeat (first | (with_reducible first | exact HB.out | apply below_alloc | apply pw_below_drewN | apply below_drew1) | exact HB.out)) hb); clear HO343; clear HO347; clear HO351; clear HO355; clear HO359; clear HO363; clear HB; have HO343 := n0_; have HO347 := n1_; have HO351 := n2_; have HO355 := n3_; have HO359 := n4_; have HO363 := n5_; have HO367 := n6_; have HB := n7_; clear n0_ n1_ n2_ n3_ n4_ n5_ n6_ n7_; (try clear hb); (try clear hb2); (try clear hk); (try clear hi); (try clear ho0)))
  (try simp only [Act.put, List.setIfInBounds_toArray, List.set_cons_zero, List.set_cons_succ])
  refine cutF [ff, ff, ff, ff, ff, ff, ff, ff, ff, ff, ff, ff, ff, ff, ff, ff, ff, ff, ff, ff, ff, ff, ff, ff, ff, ff, ff, ff, ff, ff, ff, ff, ff, ff, ff, ff, ff, ff, ff, ff, ff, ff, ff, ff, ff, ff, ff, ff, ff, ff, ff, ff, ff, ff, ff, ff, ff, ff, ff, ff, ff, ff, ff, ff, ff, ff, tt, tt, tt, tt, tt, tt, tt, tt, tt, tt, tt, tt, tt, tt, tt, tt, tt, tt, tt, tt, tt, tt, tt, tt, tt, tt, tt, tt, tt, tt, tt, tt, tt, tt, tt, tt, tt, tt, tt, tt, tt, tt, tt, tt, tt, tt, tt, tt, tt, tt, tt, tt, tt, tt, tt, tt, tt, tt, tt, tt, tt, tt, tt, tt, tt, tt, tt, tt, tt, tt, tt, tt, tt, tt, tt, tt, tt, tt, tt, tt, tt, tt, tt, tt, tt, tt, tt, tt, tt, tt, tt, tt, tt, tt, ff, ff, ff, ff, ff, ff, ff, ff, ff, ff, ff, ff, ff, ff, ff, ff, ff, ff, ff, ff, ff, ff, ff, ff, ff, ff, ff, ff, ff, ff, ff, ff, ff, ff, ff, ff, ff, ff, ff, ff, ff, ff, ff, ff, ff, ff, ff, ff, ff, ff, ff, ff, ff, ff, ff, ff, ff, ff, ff, ff, ff, ff, ff, ff, ff, ff, ff, ff, ff, ff, ff, ff, ff, ff, ff, ff, ff, ff, ff, ff, ff, ff, ff, ff, ff, ff, ff, ff, ff, ff, ff, ff, ff, ff, ff, ff, ff, ff, ff, ff, ff, ff, ff, ff, ff, ff, ff, ff, ff, ff, ff, ff, ff, ff, ff, ff, ff, ff, ff, ff, ff, ff, ff, ff, ff, ff, ff, ff, ff, ff, ff, ff, ff, ff, ff, ff, ff, ff, ff, ff, ff, ff, ff, ff, ff, ff, ff, ff, ff, ff, ff, ff, ff, ff, ff, ff, ff, ff, ff, ff, ff, ff, ff, ff, ff, ff, ff, ff, ff, ff, ff, ff, ff, ff, ff, ff, ff, ff, ff, ff, ff, ff, ff, ff, ff, ff, ff, ff, ff, ff, ff, ff, ff, ff, ff, ff, ff, ff, ff, ff, ff, ff, ff, ff, ff, ff, ff, ff, ff, ff, ff, ff, ff, ff, ff, ff, ff, ff, ff, ff, ff, ff, ff, ff, ff, ff, ff, ff, ff, ff, ff, ff, ff, ff, ff, ff, ff, ff, ff, ff, ff, ff, ff, ff, ff, ff, ff, ff, ff, ff, ff, ff, ff, ff, ff, ff, ff, ff, ff, ff, ff, ff, ff, ff, ff, ff, ff, ff, ff, ff, ff, ff, ff, ff, ff, ff, ff, ff, ff, ff, ff, ff, ff, ff, ff, ff, ff, ff, ff, ff, ff, ff, ff, ff, ff, ff, ff, ff, ff, ff, ff, ff, ff, ff, ff, ff, ff, ff, ff, ff, ff, ff, ff, ff, ff, ff, ff, ff, ff, ff, ff, ff, ff, ff, ff, ff, ff, ff, ff, ff, ff, ff, ff, ff, ff, ff, ff, ff, ff, ff, ff, ff, ff, ff, ff, ff, ff, ff, ff, ff, ff, ff, ff, ff, ff, ff, ff, ff] (fun f_ wc => ∃ (kq : Nat) (x159_11 : Bool), (f_ 159) = .bool x159_11 ∧ Aside0 (laws_FnRatesChanged.j0 kq l1 t339 t340 t341 t344 t345 t352 t360 t361 x159_11 = some r) ∧ Aside0 (kq ≤ k) ∧ Aside0 (Kd.R (Kd.int .i64) 3 wc w.heap.size (fun k_ => some k_ ≠ (v346 : Value).ownBlock ∧ some k_ ≠ (v354 : Value).ownBlock ∧ some k_ ≠ (v362 : Value).ownBlock) (.slice Ao14 t339.length co14) t339) ∧ Aside0 (Kd.R (Kd.int .i64) 3 wc w.heap.size (fun k_ => some k_ ≠ ((.slice Ao14 t339.length co14) : Value).ownBlock ∧ some k_ ≠ (v354 : Value).ownBlock ∧ some k_ ≠ (v362 : Value).ownBlock) v346 t344) ∧ Aside0 (Kd.R (Kd.int .i64) 3 wc w.heap.size (fun k_ => some k_ ≠ ((.slice Ao14 t339.length co14) : Value).ownBlock ∧ some k_ ≠ (v346 : Value).ownBlock ∧ some k_ ≠ (v362 : Value).ownBlock) v354 t352) ∧ Aside0 (Kd.R (Kd.int .i64) 3 wc w.heap.size (fun k_ => some k_ ≠ ((.slice Ao14 t339.length co14) : Value).ownBlock ∧ some k_ ≠ (v346 : Value).ownBlock ∧ some k_ ≠ (v354 : Value).ownBlock) v362 t360) ∧ Aside0 (Below w.heap.size w wc)) ?first_j0 ?rest_j0
  case first_j0 => as_aux_lemma =>
   intro J_ K_ hJ_j0 hK_
   have H := HC12.out
   clear HC12
   by_cases c21 : (t345 != t349) = true
   ·rw [if_pos c21] at H
    have c21b0 : (t345 != t349) = true := c21
    (try (have c21b1 : decide (t345 = t349) = false := by simpa using c21))
    (try (have c21b2 : (t345 == t349) = false := by simpa using c21))
    (try (have c21b3 : ¬ (t345 = t349) := by simpa using c21))
    clear c21
    (first | rw [c21b0] | (simp only [i64_w, i32_w]; rw [c21b0]) | skip)
    obtain rfl := Option.some.inj H
    exact absurd HT.out (by simp)
   ·rw [if_neg c21] at H
    have c21b0 : (t345 != t349) = false := by simpa using c21
    (try (have c21b1 : decide (t345 = t349) = true := by simpa using c21))
    (try (have c21b2 : (t345 == t349) = true := by simpa using c21))
    clear c21
    (first | rw [c21b0] | (simp only [i64_w, i32_w]; rw [c21b0]) | skip)
    replace H := Option.bind_eq_some_iff.mp H
    obtain ⟨t368, A220, H⟩ := H
    replace H : (if t368 = true then (if (t353 != t357) = true then (some false) else ((laws_iSame.f k t352 t356).bind fun t369 => (if t369 = true then (if (t361 != t365) = true then (some false) else ((laws_iSame.f k t360 t364).bind fun t370 => (if t370 = true then (if (t353 != t345) = true then (some false) else (if t361 = true then (laws_FnRatesChanged.j0 k l1 t339 t340 t341 t344 t345 t352 t360 t361 (!t345)) else (laws_FnRatesChanged.j0 k l1 t339 t340 t341 t344 t345 t352 t360 t361 false))) else (some false)))) else (some false)))) else (some false)) = some r := H
    have A22 := Aside0.mk A220
    clear A220
    by_cases c23 : t368 = true
    ·subst c23
     have H1 : (if (t353 != t357) = true then (some false) else ((laws_iSame.f k t352 t356).bind fun t369 => (if t369 = true then (if (t361 != t365) = true then (some false) else ((laws_iSame.f k t360 t364).bind fun t370 => (if t370 = true then (if (t353 != t345) = true then (some false) else (if t361 = true then (laws_FnRatesChanged.j0 k l1 t339 t340 t341 t344 t345 t352 t360 t361 (!t345)) else (laws_FnRatesChanged.j0 k l1 t339 t340 t341 t344 t345 t352 t360 t361 false))) else (some false)))) else (some false)))) = some r := by rw [if_pos rfl] at H; exact H
     clear H
     have H := H1
     clear H1
     by_cases c24 : (t353 != t357) = true
     ·rw [if_pos c24] at H
      have c24b0 : (t353 != t357) = true := c24
      (try (have c24b1 : decide (t353 = t357) = false := by simpa using c24))
      (try (have c24b2 : (t353 == t357) = false := by simpa using c24))
      (try (have c24b3 : ¬ (t353 = t357) := by simpa using c24))
      clear c24
      obtain rfl := Option.some.inj H
      exact absurd HT.out (by simp)
     ·rw [if_neg c24] at H
      have c24b0 : (t353 != t357) = false := by simpa using c24
      (try (have c24b1 : decide (t353 = t357) = true := by simpa using c24))
      (try (have c24b2 : (t353 == t357) = true := by simpa using c24))
      clear c24
      replace H := Option.bind_eq_some_iff.mp H
      obtain ⟨t369, A250, H⟩ := H
      replace H : (if t369 = true then (if (t361 != t365) = true then (some false) else ((laws_iSame.f k t360 t364).bind fun t370 => (if t370 = true then (if (t353 != t345) = true then (some false) else (if t361 = true then (laws_FnRatesChanged.j0 k l1 t339 t340 t341 t344 t345 t352 t360 t361 (!t345)) else (laws_FnRatesChanged.j0 k l1 t339 t340 t341 t344 t345 t352 t360 t361 false))) else (some false)))) else (some false)) = some r := H
      have A25 := Aside0.mk A250
      clear A250
      by_cases c26 : t369 = true
      ·subst c26
       have H1 : (if (t361 != t365) = true then (some false) else ((laws_iSame.f k t360 t364).bind fun t370 => (if t370 = true then (if (t353 != t345) = true then (some false) else (if t361 = true then (laws_FnRatesChanged.j0 k l1 t339 t340 t341 t344 t345 t352 t360 t361 (!t345)) else (laws_FnRatesChanged.j0 k l1 t339 t340 t341 t344 t345 t352 t360 t361 false))) else (some false)))) = some r := by rw [if_pos rfl] at H; exact H
       clear H
       have H := H1
       clear H1
       by_cases c27 : (t361 != t365) = true
       ·rw [if_pos c27] at H
        have c27b0 : (t361 != t365) = true := c27
        (try (have c27b1 : decide (t361 = t365) = false := by simpa using c27))
        (try (have c27b2 : (t361 == t365) = false := by simpa using c27))
        (try (have c27b3 : ¬ (t361 = t365) := by simpa using c27))
        clear c27
        obtain rfl := Option.some.inj H
        exact absurd HT.out (by simp)
       ·rw [if_neg c27] at H
        have c27b0 : (t361 != t365) = false := by simpa using c27
        (try (have c27b1 : decide (t361 = t365) = true := by simpa using c27))
        (try (have c27b2 : (t361 == t365) = true := by simpa using c27))
        clear c27
        replace H := Option.bind_eq_some_iff.mp H
        obtain ⟨t370, A280, H⟩ := H
        replace H : (if t370 = true then (if (t353 != t345) = true then (some false) else (if t361 = true then (laws_FnRatesChanged.j0 k l1 t339 t340 t341 t344 t345 t352 t360 t361 (!t345)) else (laws_FnRatesChanged.j0 k l1 t339 t340 t341 t344 t345 t352 t360 t361 false))) else (some false)) = some r := H
        have A28 := Aside0.mk A280
        clear A280
        by_cases c29 : t370 = true
        ·subst c29
         have H1 : (if (t353 != t345) = true then (some false) else (if t361 = true then (laws_FnRatesChanged.j0 k l1 t339 t340 t341 t344 t345 t352 t360 t361 (!t345)) else (laws_FnRatesChanged.j0 k l1 t339 t340 t341 t344 t345 t352 t360 t361 false))) = some r := by rw [if_pos rfl] at H; exact H
         clear H
         have H := H1
         clear H1
         by_cases c30 : (t353 != t345) = true
         ·rw [if_pos c30] at H
          have c30b0 : (t353 != t345) = true := c30
          (try (have c30b1 : decide (t353 = t345) = false := by simpa using c30))
          (try (have c30b2 : (t353 == t345) = false := by simpa using c30))
          (try (have c30b3 : ¬ (t353 = t345) := by simpa using c30))
          clear c30
          obtain rfl := Option.some.inj H
          exact absurd HT.out (by simp)
         ·rw [if_neg c30] at H
          have c30b0 : (t353 != t345) = false := by simpa using c30
          (try (have c30b1 : decide (t353 = t345) = true := by simpa using c30))
          (try (have c30b2 : (t353 == t345) = true := by simpa using c30))
          clear c30
          by_cases c31 : t361 = true
          ·subst c31
           have H1 : (laws_FnRatesChanged.j0 k l1 t339 t340 t341 t344 t345 t352 t360 true (!t345)) = some r := by rw [if_pos rfl] at H; exact H
           clear H
           have H := H1
           clear H1
           have H' := Aside0.mk H
           clear H
           obtain ⟨Ao32, co32, eo32⟩ := Kd.R_slice HO347.out
           subst eo32
           obtain ⟨Ao33, co33, eo33⟩ := Kd.R_slice HO351.out
           subst eo33
           go_wp2_with (first | (go_at_call 14; (with_reducible refine (laws_iSame.calls k _ _ t344 _ _ t348 true _ ?side1 ?side2 ?side3 ?side4 A22.out).mono ?_); (case side1 => repeat (first | exact (Kd.R_reads' HO347.out).2.2 | (with_reducible refine Kd.C_alloc ?_ _) | (with_reducible refine Kd.C_drewN ?_ _) | (with_reducible refine Kd.C_drew ?_))); (case side2 => exact (Kd.R_reads' HO347.out).2.1); (case side3 => repeat (first | exact (Kd.R_reads' HO351.out).2.2 | (with_reducible refine Kd.C_alloc ?_ _) | (with_reducible refine Kd.C_drewN ?_ _) | (with_reducible refine Kd.C_drew ?_))); (case side4 => exact (Kd.R_reads' HO351.out).2.1); rintro e w' ⟨rfl, ⟨nd, rfl⟩⟩; (try first | exact ⟨rfl, _, World.drewN_drewN _ _ _⟩ | exact ⟨rfl, _, Eq.trans (World.drewN_drewN _ _ _) (congrArg (World.drewN _) (Nat.add_assoc _ _ _))⟩); obtain ⟨Ao34, co34, eo34⟩ := Kd.R_slice HO355.out; subst eo34; obtain ⟨Ao35, co35, eo35⟩ := Kd.R_slice HO359.out; subst eo35) | (go_at_call 14; (with_reducible refine (laws_iSame.calls k _ _ t352 _ _ t356 true _ ?side1 ?side2 ?side3 ?side4 A25.out).mono ?_); (case side1 => repeat (first | exact (Kd.R_reads' HO355.out).2.2 | (with_reducible refine Kd.C_alloc ?_ _) | (with_reducible refine Kd.C_drewN ?_ _) | (with_reducible refine Kd.C_drew ?_))); (case side2 => exact (Kd.R_reads' HO355.out).2.1); (case side3 => repeat (first | exact (Kd.R_reads' HO359.out).2.2 | (with_reducible refine Kd.C_alloc ?_ _) | (with_reducible refine Kd.C_drewN ?_ _) | (with_reducible refine Kd.C_drew ?_))); (case side4 => exact (Kd.R_reads' HO359.out).2.1); rintro e w' ⟨rfl, ⟨nd, rfl⟩⟩; (try first | exact ⟨rfl, _, World.drewN_drewN _ _ _⟩ | exact ⟨rfl, _, Eq.trans (World.drewN_drewN _ _ _) (congrArg (World.drewN _) (Nat.add_assoc _ _ _))⟩); obtain ⟨Ao36, co36, eo36⟩ := Kd.R_slice HO363.out; subst eo36; obtain ⟨Ao37, co37, eo37⟩ := Kd.R_slice HO367.out; subst eo37) | (go_at_call 14; (with_reducible refine (laws_iSame.calls k _ _ t360 _ _ t364 true _ ?side1 ?side2 ?side3 ?side4 A28.out).mono ?_); (case side1 => repeat (first | exact (Kd.R_reads' HO363.out).2.2 | (with_reducible refine Kd.C_alloc ?_ _) | (with_reducible refine Kd.C_drewN ?_ _) | (with_reducible refine Kd.C_drew ?_))); (case side2 => exact (Kd.R_reads' HO363.out).2.1); (case side3 => repeat (first | exact (Kd.R_reads' HO367.out).2.2 | (with_reducible refine Kd.C_alloc ?_ _) | (with_reducible refine Kd.C_drewN ?_ _) | (with_reducible refine Kd.C_drew ?_))); (case side4 => exact (Kd.R_reads' HO367.out).2.1); rintro e w' ⟨rfl, ⟨nd, rfl⟩⟩; (try first | exact ⟨rfl, _, World.drewN_drewN _ _ _⟩ | exact ⟨rfl, _, Eq.trans (World.drewN_drewN _ _ _) (congrArg (World.drewN _) (Nat.add_assoc _ _ _))⟩)))
           refine meetF hJ_j0 (by kernel_rfl) (by kernel_rfl) ?rel_z38
           case rel_z38 => (try simp only [List.getD_cons_succ, List.getD_cons_zero]); exact ⟨_, (!t345), (by first | rfl | (simp; done) | (simp [*]; done)), H', ⟨by first | omega | exact Nat.le_refl _⟩, ⟨by (with_reducible repeat (first | apply Kd.R_alloc | apply Kd.R_drewN | apply Kd.R_drew)); exact Kd.R_mono HO343.out (fun _ hk => ⟨hk.1.1.1.1.1.2, ⟨hk.1.1.1.2, hk.1.2⟩⟩)⟩, ⟨by (with_reducible repeat (first | apply Kd.R_alloc | apply Kd.R_drewN | apply Kd.R_drew)); exact Kd.R_mono HO347.out (fun _ hk => ⟨hk.1.1.1.1.1.2, ⟨hk.1.1.1.2, hk.1.2⟩⟩)⟩, ⟨by (with_reducible repeat (first | apply Kd.R_alloc | apply Kd.R_drewN | apply Kd.R_drew)); exact Kd.R_mono HO355.out (fun _ hk => ⟨hk.1.1.1.1.1.2, ⟨hk.1.1.1.1.2, hk.1.2⟩⟩)⟩, ⟨by (with_reducible repeat (first | apply Kd.R_alloc | apply Kd.R_drewN | apply Kd.R_drew)); exact Kd.R_mono HO363.out (fun _ hk => ⟨hk.1.1.1.1.1.2, ⟨hk.1.1.1.1.2, hk.1.1.2⟩⟩)⟩, ⟨by repeat (first | (with_reducible first | exact HB.out | apply below_alloc | apply pw_below_drewN | apply below_drew1) | exact HB.out)⟩⟩
          ·replace c31 := Bool.eq_false_iff.mpr c31
           subst c31
           have H1 : (laws_FnRatesChanged.j0 k l1 t339 t340 t341 t344 t345 t352 t360 false false) = some r := by rw [if_neg (show ¬ (false = true) by decide)] at H; exact H
           clear H
           have H := H1
           clear H1
           have H' := Aside0.mk H
           clear H
           obtain ⟨Ao39, co39, eo39⟩ := Kd.R_slice HO347.out
           subst eo39
           obtain ⟨Ao40, co40, eo40⟩ := Kd.R_slice HO351.out
           subst eo40
           go_wp2_with (first | (go_at_call 14; (with_reducible refine (laws_iSame.calls k _ _ t344 _ _ t348 true _ ?side1 ?side2 ?side3 ?side4 A22.out).mono ?_); (case side1 => repeat (first | exact (Kd.R_reads' HO347.out).2.2 | (with_reducible refine Kd.C_alloc ?_ _) | (with_reducible refine Kd.C_drewN ?_ _) | (with_reducible refine Kd.C_drew ?_))); (case side2 => exact (Kd.R_reads' HO347.out).2.1); (case side3 => repeat (first | exact (Kd.R_reads' HO351.out).2.2 | (with_reducible refine Kd.C_alloc ?_ _) | (with_reducible refine Kd.C_drewN ?_ _) | (with_reducible refine Kd.C_drew ?_))); (case side4 => exact (Kd.R_reads' HO351.out).2.1); rintro e w' ⟨rfl, ⟨nd, rfl⟩⟩; (try first | exact ⟨rfl, _, World.drewN_drewN _ _ _⟩ | exact ⟨rfl, _, Eq.trans (World.drewN_drewN _ _ _) (congrArg (World.drewN _) (Nat.add_assoc _ _ _))⟩); obtain ⟨Ao41, co41, eo41⟩ := Kd.R_slice HO355.out; subst eo41; obtain ⟨Ao42, co42, eo42⟩ := Kd.R_slice HO359.out; subst eo42) | (go_at_call 14; (with_reducible refine (laws_iSame.calls k _ _ t352 _ _ t356 true _ ?side1 ?side2 ?side3 ?side4 A25.out).mono ?_); (case side1 => repeat (first | exact (Kd.R_reads' HO355.out).2.2 | (with_reducible refine Kd.C_alloc ?_ _) | (with_reducible refine Kd.C_drewN ?_ _) | (with_reducible refine Kd.C_drew ?_))); (case side2 => exact (Kd.R_reads' HO355.out).2.1); (case side3 => repeat (first | exact (Kd.R_reads' HO359.out).2.2 | (with_reducible refine Kd.C_alloc ?_ _) | (with_reducible refine Kd.C_drewN ?_ _) | (with_reducible refine Kd.C_drew ?_))); (case side4 => exact (Kd.R_reads' HO359.out).2.1); rintro e w' ⟨rfl, ⟨nd, rfl⟩⟩; (try first | exact ⟨rfl, _, World.drewN_drewN _ _ _⟩ | exact ⟨rfl, _, Eq.trans (World.drewN_drewN _ _ _) (congrArg (World.drewN _) (Nat.add_assoc _ _ _))⟩); obtain ⟨Ao43, co43, eo43⟩ := Kd.R_slice HO363.out; subst eo43; obtain ⟨Ao44, co44, eo44⟩ := Kd.R_slice HO367.out; subst eo44) | (go_at_call 14; (with_reducible refine (laws_iSame.calls k _ _ t360 _ _ t364 true _ ?side1 ?side2 ?side3 ?side4 A28.out).mono ?_); (case side1 => repeat (first | exact (Kd.R_reads' HO363.out).2.2 | (with_reducible refine Kd.C_alloc ?_ _) | (with_reducible refine Kd.C_drewN ?_ _) | (with_reducible refine Kd.C_drew ?_))); (case side2 => exact (Kd.R_reads' HO363.out).2.1); (case side3 => repeat (first | exact (Kd.R_reads' HO367.out).2.2 | (with_reducible refine Kd.C_alloc ?_ _) | (with_reducible refine Kd.C_drewN ?_ _) | (with_reducible refine Kd.C_drew ?_))); (case side4 => exact (Kd.R_reads' HO367.out).2.1); rintro e w' ⟨rfl, ⟨nd, rfl⟩⟩; (try first | exact ⟨rfl, _, World.drewN_drewN _ _ _⟩ | exact ⟨rfl, _, Eq.trans (World.drewN_drewN _ _ _) (congrArg (World.drewN _) (Nat.add_assoc _ _ _))⟩)))
           refine meetF hJ_j0 (by kernel_rfl) (by kernel_rfl) ?rel_z45
           case rel_z45 => (try simp only [List.getD_cons_succ, List.getD_cons_zero]); exact ⟨_, (false), (by first | rfl | (simp; done) | (simp [*]; done)), H', ⟨by first | omega | exact Nat.le_refl _⟩, ⟨by (with_reducible repeat (first | apply Kd.R_alloc | apply Kd.R_drewN | apply Kd.R_drew)); exact Kd.R_mono HO343.out (fun _ hk => ⟨hk.1.1.1.1.1.2, ⟨hk.1.1.1.2, hk.1.2⟩⟩)⟩, ⟨by (with_reducible repeat (first | apply Kd.R_alloc | apply Kd.R_drewN | apply Kd.R_drew)); exact Kd.R_mono HO347.out (fun _ hk => ⟨hk.1.1.1.1.1.2, ⟨hk.1.1.1.2, hk.1.2⟩⟩)⟩, ⟨by (with_reducible repeat (first | apply Kd.R_alloc | apply Kd.R_drewN | apply Kd.R_drew)); exact Kd.R_mono HO355.out (fun _ hk => ⟨hk.1.1.1.1.1.2, ⟨hk.1.1.1.1.2, hk.1.2⟩⟩)⟩, ⟨by (with_reducible repeat (first | apply Kd.R_alloc | apply Kd.R_drewN | apply Kd.R_drew)); exact Kd.R_mono HO363.out (fun _ hk => ⟨hk.1.1.1.1.1.2, ⟨hk.1.1.1.1.2, hk.1.1.2⟩⟩)⟩, ⟨by repeat (first | (with_reducible first | exact HB.out | apply below_alloc | apply pw_below_drewN | apply below_drew1) | exact HB.out)⟩⟩
        ·replace c29 := Bool.eq_false_iff.mpr c29
         subst c29
         have H1 : (some false) = some r := by rw [if_neg (show ¬ (false = true) by decide)] at H; exact H
         clear H
         have H := H1
         clear H1
         obtain rfl := Option.some.inj H
         exact absurd HT.out (by simp)
      ·replace c26 := Bool.eq_false_iff.mpr c26
       subst c26
       have H1 : (some false) = some r := by rw [if_neg (show ¬ (false = true) by decide)] at H; exact H
       clear H
       have H := H1
       clear H1
       obtain rfl := Option.some.inj H
       exact absurd HT.out (by simp)
    ·replace c23 := Bool.eq_false_iff.mpr c23
     subst c23
     have H1 : (some false) = some r := by rw [if_neg (show ¬ (false = true) by decide)] at H; exact H
     clear H
     have H := H1
     clear H1
     obtain rfl := Option.some.inj H
     exact absurd HT.out (by simp)
  case rest_j0 => as_aux_lemma =>
   intro f_ wc hcut
   dsimp only [ov]
   generalize f_ 159 = v159 at hcut ⊢
   clear HC12
   try clear c1
   try clear c2
   try clear p2
   try clear c3
   try clear c4
   try clear c21
   try clear c21b0
   try clear c21b1
   try clear c21b2
   try clear c23
   try clear c24
   try clear c24b0
   try clear c24b1
   try clear c24b2
   try clear c26
   try clear c27
   try clear c27b0
   try clear c27b1
   try clear c27b2
   try clear c29
   try clear c30
   try clear c30b0
   try clear c30b1
   try clear c30b2
   try clear c31
   obtain ⟨kq, x159_11, rfl, HA, HJ11, HO_5, HO_8, HO_12, HO_16, HB⟩ := hcut
   cases kq with
   | zero => exact absurd HA.out (by simp [laws_FnRatesChanged.j0])
   | succ kj11 =>
    have H := HA.out
    clear HA
    simp only [laws_FnRatesChanged.j0] at H
    by_cases c46 : x159_11 = true
    ·subst c46
     have H1 : (some false) = some r := by rw [if_pos rfl] at H; exact H
     clear H
     have H := H1
     clear H1
     obtain rfl := Option.some.inj H
     exact absurd HT.out (by simp)
    ·replace c46 := Bool.eq_false_iff.mpr c46
     subst c46
     have H1 : (if t345 = true then ((impl_LengthAfter.f (t339.length : Int) t340 t341).bind fun bt371 => (if bt371.2 = true then (if (t344.length : Int) = bt371.1 then (if (t352.length : Int) = bt371.1 then (if t361 = true then (laws_FnRatesChanged.j1 kj11 l1 t339 t340 t341 t344 t352 t360 t361 ((t360.length : Int) != bt371.1)) else (laws_FnRatesChanged.j1 kj11 l1 t339 t340 t341 t344 t352 t360 t361 false)) else (some false)) else (some false)) else (some false))) else (laws_FnRatesChanged.j6 kj11 l1)) = some r := by rw [if_neg (show ¬ (false = true) by decide)] at H; exact H
     clear H
     have H := H1
     clear H1
     have HC47 := Aside0.mk H
     clear H
     go_upto_if 160 with (fail)
     refine cutF [ff, ff, ff, ff, tt, ff, ff, ff, ff, ff, ff, ff, ff, ff, ff, ff, ff, ff, ff, ff, tt, tt, tt, tt, tt, tt, tt, tt, tt, tt, tt, tt, tt, tt, ff, ff, ff, ff, ff, ff, ff, ff, ff, ff, ff, ff, ff, ff, ff, ff, ff, ff, ff, ff, ff, ff, ff, ff, ff, ff, ff, ff, ff, ff, ff, ff, tt, tt, tt, tt, tt, tt, tt, tt, tt, tt, tt, tt, tt, tt, tt, tt, tt, tt, tt, tt, tt, tt, tt, tt, tt, tt, tt, tt, tt, tt, tt, tt, tt, tt, tt, tt, tt, tt, tt, tt, tt, tt, tt, tt, tt, tt, tt, tt, tt, tt, tt, tt, tt, tt, tt, tt, tt, tt, tt, tt, tt, tt, tt, tt, tt, tt, tt, tt, tt, tt, tt, tt, tt, tt, tt, tt, tt, tt, tt, tt, tt, tt, tt, tt, tt, tt, tt, tt, tt, tt, tt, tt, tt, tt, tt, tt, tt, tt, tt, tt, tt, tt, tt, tt, tt, tt, tt, tt, tt, tt, tt, tt, tt, tt, tt, tt, tt, tt, tt, tt, tt, tt, tt, tt, tt, tt, tt, tt, tt, tt, tt, tt, tt, tt, tt, tt, tt, tt, tt, tt, tt, tt, tt, tt, tt, tt, tt, tt, tt, tt, tt, tt, tt, tt, tt, tt, tt, tt, tt, tt, tt, tt, tt, tt, tt, tt, tt, tt, tt, tt, tt, tt, tt, tt, tt, tt, tt, tt, tt, tt, tt, tt, tt, tt, tt, tt, tt, tt, tt, tt, tt, tt, tt, tt, tt, tt, tt, tt, tt, tt, tt, tt, tt, tt, tt, tt, tt, tt, tt, tt, tt, tt, tt, tt, tt, tt, tt, tt, tt, tt, tt, tt, tt, tt, tt, tt, tt, tt, tt, tt, tt, tt, tt, tt, tt, tt, tt, tt, tt, tt, tt, tt, tt, tt, tt, tt, tt, tt, tt, tt, tt, tt, tt, tt, tt, tt, tt, tt, tt, tt, tt, tt, tt, tt, tt, tt, tt, tt, tt, tt, tt, tt, tt, tt, tt, tt, tt, tt, tt, tt, tt, tt, tt, tt, tt, tt, tt, tt, tt, tt, tt, tt, tt, tt, ff, ff, ff, ff, ff, ff, ff, ff, ff, ff, ff, ff, ff, ff, ff, ff, ff, ff, ff, ff, ff, ff, ff, ff, ff, ff, ff, ff, ff, ff, ff, ff, ff, ff, ff, ff, ff, ff, ff, ff, ff, ff, ff, ff, ff, ff, ff, ff, ff, ff, ff, ff, ff, ff, ff, ff, ff, ff, ff, ff, ff, ff, ff, ff, ff, ff, ff, ff, ff, ff, ff, ff, ff, ff, ff, ff, ff, ff, ff, ff, ff, ff, ff, ff, ff, ff, ff, ff, ff, ff, ff, ff, ff, ff, ff, ff, ff, ff, ff, ff, ff, ff, ff, ff, ff, ff, ff, ff, ff, ff, ff, ff, ff, ff, ff, ff, ff, ff, ff, ff, ff, ff, ff, ff, ff, ff, ff, ff, ff, ff, ff, ff, ff, ff, ff, ff, ff, ff, ff, ff, ff, ff, ff, ff, ff, ff, ff, ff, ff, ff, ff, ff, ff, ff, ff, ff, ff, ff] (fun f_ wc => ∃ (kq : Nat), Aside0 (laws_FnRatesChanged.j6 kq l1 = some r) ∧ Aside0 (kq ≤ kj11) ∧ Aside0 (Below w.heap.size w wc)) ?first_j6 ?rest_j6
     case first_j6 => as_aux_lemma =>
      intro J_ K_ hJ_j6 hK_
      have H := HC47.out
      clear HC47
      by_cases c48 : t345 = true
      ·subst c48
       have H1 : ((impl_LengthAfter.f (t339.length : Int) t340 t341).bind fun bt371 => (if bt371.2 = true then (if (t344.length : Int) = bt371.1 then (if (t352.length : Int) = bt371.1 then (if t361 = true then (laws_FnRatesChanged.j1 kj11 l1 t339 t340 t341 t344 t352 t360 t361 ((t360.length : Int) != bt371.1)) else (laws_FnRatesChanged.j1 kj11 l1 t339 t340 t341 t344 t352 t360 t361 false)) else (some false)) else (some false)) else (some false))) = some r := by rw [if_pos rfl] at H; exact H
       clear H
       have H := H1
       clear H1
       replace H := Option.bind_eq_some_iff.mp H
       obtain ⟨⟨t371, t372⟩, A490, H⟩ := H
       replace H : (if t372 = true then (if (t344.length : Int) = t371 then (if (t352.length : Int) = t371 then (if t361 = true then (laws_FnRatesChanged.j1 kj11 l1 t339 t340 t341 t344 t352 t360 t361 ((t360.length : Int) != t371)) else (laws_FnRatesChanged.j1 kj11 l1 t339 t340 t341 t344 t352 t360 t361 false)) else (some false)) else (some false)) else (some false)) = some r := H
       have A49 := Aside0.mk A490
       clear A490
       have HC50 := Aside0.mk H
       clear H
       go_upto_region 14 with (first | (go_at_call 15; (with_reducible refine (impl_LengthAfter.calls (t339.length : Int) t340 t341 t371 t372 _ A49.out).mono ?_); rintro e w' ⟨rfl, ⟨nd, rfl⟩⟩; (try first | exact ⟨rfl, _, World.drewN_drewN _ _ _⟩ | exact ⟨rfl, _, Eq.trans (World.drewN_drewN _ _ _) (congrArg (World.drewN _) (Nat.add_assoc _ _ _))⟩)))
       (try simp only [Act.put, List.setIfInBounds_toArray, List.set_cons_zero, List.set_cons_succ])
       refine cutF [ff, ff, ff, ff, ff, ff, ff, ff, ff, ff, ff, ff, ff, ff, ff, ff, ff, ff, ff, ff, ff, ff, ff, ff, ff, ff, ff, ff, ff, ff, ff, ff, ff, ff, ff, ff, ff, ff, ff, ff, ff, ff, ff, ff, ff, ff, ff, ff, ff, ff, ff, ff, ff, ff, ff, ff, ff, ff, ff, ff, ff, ff, ff, ff, ff, ff, tt, tt, tt, tt, tt, tt, tt, tt, tt, tt, tt, tt, tt, tt, tt, tt, tt, tt, tt, tt, tt, tt, tt, tt, tt, tt, tt, tt, tt, tt, tt, tt, tt, tt, tt, tt, tt, tt, tt, tt, tt, tt, tt, tt, tt, tt, tt, tt, tt, tt, tt, tt, tt, tt, tt, tt, tt, tt, tt, tt, tt, tt, tt, tt, tt, tt, tt, tt, tt, tt, tt, tt, tt, tt, tt, tt, tt, tt, tt, tt, tt, tt, tt, tt, tt, tt, tt, tt, tt, tt, tt, tt, tt, tt, tt, tt, tt, tt, tt, tt, tt, tt, tt, tt, tt, tt, tt, tt, tt, tt, tt, tt, tt, tt, tt, tt, tt, tt, tt, tt, tt, tt, tt, tt, tt, tt, ff, ff, ff, ff, ff, ff, ff, ff, ff, ff, ff, ff, ff, ff, ff, ff, ff, ff, ff, ff, ff, ff, ff, ff, ff, ff, ff, ff, ff, ff, ff, ff, ff, ff, ff, ff, ff, ff, ff, ff, ff, ff, ff, ff, ff, ff, ff, ff, ff, ff, ff, ff, ff, ff, ff, ff, ff, ff, ff, ff, ff, ff, ff, ff, ff, ff, ff, ff, ff, ff, ff, ff, ff, ff, ff, ff, ff, ff, ff, ff, ff, ff, ff, ff, ff, ff, ff, ff, ff, ff, ff, ff, ff, ff, ff, ff, ff, ff, ff, ff, ff, ff, ff, ff, ff, ff, ff, ff, ff, ff, ff, ff, ff, ff, ff, ff, ff, ff, ff, ff, ff, ff, ff, ff, ff, ff, ff, ff, ff, ff, ff, ff, ff, ff, ff, ff, ff, ff, ff, ff, ff, ff, ff, ff, ff, ff, ff, ff, ff, ff, ff, ff, ff, ff, ff, ff, ff, ff, ff, ff, ff, ff, ff, ff, ff, ff, ff, ff, ff, ff, ff, ff, ff, ff, ff, ff, ff, ff, ff, ff, ff, ff, ff, ff, ff, ff, ff, ff, ff, ff, ff, ff, ff, ff, ff, ff, ff, ff, ff, ff, ff, ff, ff, ff, ff, ff, ff, ff, ff, ff, ff, ff, ff, ff, ff, ff, ff, ff, ff, ff, ff, ff, ff, ff, ff, ff, ff, ff, ff, ff, ff, ff, ff, ff, ff, ff, ff, ff, ff, ff, ff, ff, ff, ff, ff, ff, ff, ff, ff, ff, ff, ff, ff, ff, ff, ff, ff, ff, ff, ff, ff, ff, ff, ff, ff, ff, ff, ff, ff, ff, ff, ff, ff, ff, ff, ff, ff, ff, ff, ff, ff, ff, ff, ff, ff, ff, ff, ff, ff, ff, ff, ff, ff, ff, ff, ff, ff, ff, ff, ff, ff, ff, ff, ff, ff, ff, ff, ff, ff, ff, ff, ff, ff, ff, ff, ff, ff, ff, ff, ff, ff, ff, ff, ff, ff, ff] (fun f_ wc => ∃ (kq : Nat) (x191_49 : Bool), (f_ 191) = .bool x191_49 ∧ Aside0 (laws_FnRatesChanged.j1 kq l1 t339 t340 t341 t344 t352 t360 t361 x191_49 = some r) ∧ Aside0 (kq ≤ kj11) ∧ Aside0 (Kd.R (Kd.int .i64) 3 wc w.heap.size (fun k_ => some k_ ≠ (v346 : Value).ownBlock ∧ some k_ ≠ (v354 : Value).ownBlock ∧ some k_ ≠ (v362 : Value).ownBlock) (.slice Ao14 t339.length co14) t339) ∧ Aside0 (Kd.R (Kd.int .i64) 3 wc w.heap.size (fun k_ => some k_ ≠ ((.slice Ao14 t339.length co14) : Value).ownBlock ∧ some k_ ≠ (v354 : Value).ownBlock ∧ some k_ ≠ (v362 : Value).ownBlock) v346 t344) ∧ Aside0 (Kd.R (Kd.int .i64) 3 wc w.heap.size (fun k_ => some k_ ≠ ((.slice Ao14 t339.length co14) : Value).ownBlock ∧ some k_ ≠ (v346 : Value).ownBlock ∧ some k_ ≠ (v362 : Value).ownBlock) v354 t352) ∧ Aside0 (Kd.R (Kd.int .i64) 3 wc w.heap.size (fun k_ => some k_ ≠ ((.slice Ao14 t339.length co14) : Value).ownBlock ∧ some k_ ≠ (v346 : Value).ownBlock ∧ some k_ ≠ (v354 : Value).ownBlock) v362 t360) ∧ Aside0 (Below w.heap.size w wc)) ?first_j1 ?rest_j1
       case first_j1 => as_aux_lemma =>
        intro J_ K_ hJ_j1 hK_
        have H := HC50.out
        clear HC50
        by_cases c51 : t372 = true
        ·subst c51
         have H1 : (if (t344.length : Int) = t371 then (if (t352.length : Int) = t371 then (if t361 = true then (laws_FnRatesChanged.j1 kj11 l1 t339 t340 t341 t344 t352 t360 t361 ((t360.length : Int) != t371)) else (laws_FnRatesChanged.j1 kj11 l1 t339 t340 t341 t344 t352 t360 t361 false)) else (some false)) else (some false)) = some r := by rw [if_pos rfl] at H; exact H
         clear H
         have H := H1
         clear H1
         by_cases c52 : (t344.length : Int) = t371
         ·rw [if_pos c52] at H
          have c52b0 : ((t344.length : Int) == t371) = true := beq_iff_eq.mpr c52
          have c52b1 : ((t344.length : Int) != t371) = false := bne_eq_false_iff_eq.mpr c52
          clear c52
          (first | rw [c52b0] | (simp only [i64_w, i32_w]; rw [c52b0]) | skip)
          by_cases c53 : (t352.length : Int) = t371
          ·rw [if_pos c53] at H
           have c53b0 : ((t352.length : Int) == t371) = true := beq_iff_eq.mpr c53
           have c53b1 : ((t352.length : Int) != t371) = false := bne_eq_false_iff_eq.mpr c53
           clear c53
           by_cases c54 : t361 = true
           ·subst c54
            have H1 : (laws_FnRatesChanged.j1 kj11 l1 t339 t340 t341 t344 t352 t360 true ((t360.length : Int) != t371)) = some r := by rw [if_pos rfl] at H; exact H
            clear H
            have H := H1
            clear H1
            have H' := Aside0.mk H
            clear H
            obtain ⟨Ao55, co55, eo55⟩ := Kd.R_slice HO_8.out
            subst eo55
            obtain ⟨Ao56, co56, eo56⟩ := Kd.R_slice HO_12.out
            subst eo56
            obtain ⟨Ao57, co57, eo57⟩ := Kd.R_slice HO_16.out
            subst eo57
            go_wp2
            refine meetF hJ_j1 (by kernel_rfl) (by kernel_rfl) ?rel_z58
            case rel_z58 => (try simp only [List.getD_cons_succ, List.getD_cons_zero]); exact ⟨_, (((t360.length : Int) != t371)), (by first | rfl | (simp; done) | (simp [*]; done)), H', ⟨by have := HJ11.out; first | omega | exact Nat.le_refl _⟩, ⟨by (with_reducible repeat (first | apply Kd.R_alloc | apply Kd.R_drewN | apply Kd.R_drew)); exact HO_5.out⟩, ⟨by (with_reducible repeat (first | apply Kd.R_alloc | apply Kd.R_drewN | apply Kd.R_drew)); exact HO_8.out⟩, ⟨by (with_reducible repeat (first | apply Kd.R_alloc | apply Kd.R_drewN | apply Kd.R_drew)); exact HO_12.out⟩, ⟨by (with_reducible repeat (first | apply Kd.R_alloc | apply Kd.R_drewN | apply Kd.R_drew)); exact HO_16.out⟩, ⟨by repeat (first | (with_reducible first | exact HB.out | apply below_alloc | apply pw_below_drewN | apply below_drew1) | exact HB.out)⟩⟩
           ·replace c54 := Bool.eq_false_iff.mpr c54
            subst c54
            have H1 : (laws_FnRatesChanged.j1 kj11 l1 t339 t340 t341 t344 t352 t360 false false) = some r := by rw [if_neg (show ¬ (false = true) by decide)] at H; exact H
            clear H
            have H := H1
            clear H1
            have H' := Aside0.mk H
            clear H
            obtain ⟨Ao59, co59, eo59⟩ := Kd.R_slice HO_8.out
            subst eo59
            obtain ⟨Ao60, co60, eo60⟩ := Kd.R_slice HO_12.out
            subst eo60
            go_wp2
            refine meetF hJ_j1 (by kernel_rfl) (by kernel_rfl) ?rel_z61
            case rel_z61 => (try simp only [List.getD_cons_succ, List.getD_cons_zero]); exact ⟨_, (false), (by first | rfl | (simp; done) | (simp [*]; done)), H', ⟨by have := HJ11.out; first | omega | exact Nat.le_refl _⟩, ⟨by (with_reducible repeat (first | apply Kd.R_alloc | apply Kd.R_drewN | apply Kd.R_drew)); exact HO_5.out⟩, ⟨by (with_reducible repeat (first | apply Kd.R_alloc | apply Kd.R_drewN | apply Kd.R_drew)); exact HO_8.out⟩, ⟨by (with_reducible repeat (first | apply Kd.R_alloc | apply Kd.R_drewN | apply Kd.R_drew)); exact HO_12.out⟩, ⟨by (with_reducible repeat (first | apply Kd.R_alloc | apply Kd.R_drewN | apply Kd.R_drew)); exact HO_16.out⟩, ⟨by repeat (first | (with_reducible first | exact HB.out | apply below_alloc | apply pw_below_drewN | apply below_drew1) | exact HB.out)⟩⟩
          ·rw [if_neg c53] at H
           have c53b0 : ((t352.length : Int) == t371) = false := beq_eq_false_iff_ne.mpr c53
           have c53b1 : ((t352.length : Int) != t371) = true := bne_iff_ne.mpr c53
           obtain rfl := Option.some.inj H
           exact absurd HT.out (by simp)
         ·rw [if_neg c52] at H
          have c52b0 : ((t344.length : Int) == t371) = false := beq_eq_false_iff_ne.mpr c52
          have c52b1 : ((t344.length : Int) != t371) = true := bne_iff_ne.mpr c52
          (first | rw [c52b0] | (simp only [i64_w, i32_w]; rw [c52b0]) | skip)
          obtain rfl := Option.some.inj H
          exact absurd HT.out (by simp)
        ·replace c51 := Bool.eq_false_iff.mpr c51
         subst c51
         have H1 : (some false) = some r := by rw [if_neg (show ¬ (false = true) by decide)] at H; exact H
         clear H
         have H := H1
         clear H1
         obtain rfl := Option.some.inj H
         exact absurd HT.out (by simp)
       case rest_j1 => as_aux_lemma =>
        intro f_ wc hcut
        dsimp only [ov]
        generalize f_ 191 = v191 at hcut ⊢
        clear HC50
        try clear c1
        try clear c2
        try clear p2
        try clear c3
        try clear c4
        try clear c5
        try clear c21
        try clear c21b0
        try clear c21b1
        try clear c21b2
        try clear c23
        try clear c24
        try clear c24b0
        try clear c24b1
        try clear c24b2
        try clear c26
        try clear c27
        try clear c27b0
        try clear c27b1
        try clear c27b2
        try clear c29
        try clear c30
        try clear c30b0
        try clear c30b1
        try clear c30b2
        try clear c31
        try clear c46
        try clear c48
        try clear c51
        try clear c52
        try clear c52b0
        try clear c52b1
        try clear c53
        try clear c53b0
        try clear c53b1
        try clear c54
        try clear p2
        obtain ⟨kq, x191_49, rfl, HA, HJ49, HO_5, HO_8, HO_12, HO_16, HB⟩ := hcut
        cases kq with
        | zero => exact absurd HA.out (by simp [laws_FnRatesChanged.j1])
        | succ kj49 =>
         have H := HA.out
         clear HA
         simp only [laws_FnRatesChanged.j1] at H
         by_cases c62 : x191_49 = true
         ·subst c62
          have H1 : (some false) = some r := by rw [if_pos rfl] at H; exact H
          clear H
          have H := H1
          clear H1
          obtain rfl := Option.some.inj H
          exact absurd HT.out (by simp)
         ·replace c62 := Bool.eq_false_iff.mpr c62
          subst c62
          have H1 : (laws_FnRatesChanged.l0 kj49 l1 t339 t340 t341 t344 t352 t360 t361 (t344.length : Int) 0) = some r := by rw [if_neg (show ¬ (false = true) by decide)] at H; exact H
          clear H
          have H := H1
          clear H1
          have H' := Aside0.mk H
          clear H
          obtain ⟨Ao63, co63, eo63⟩ := Kd.R_slice HO_8.out
          subst eo63
          go_wp2
          refine loopF kj49 [ff, ff, ff, ff, tt, ff, ff, ff, ff, ff, ff, ff, ff, ff, ff, ff, ff, ff, ff, ff, ff, ff, tt, tt, tt, tt, tt, tt, tt, ff, ff, ff, ff, ff, ff, ff, ff, ff, ff, ff, ff, ff, ff, ff, ff, ff, ff, ff, ff, ff, ff, ff, ff, ff, ff, ff, ff, ff, ff, ff, ff, ff, ff, ff, ff, ff, ff, ff, ff, ff, ff, ff, ff, ff, ff, ff, ff, ff, ff, ff, ff, ff, ff, ff, ff, ff, ff, ff, ff, ff, ff, ff, ff, ff, ff, ff, ff, ff, ff, ff, ff, ff, ff, ff, ff, ff, ff, ff, ff, ff, ff, ff, ff, ff, ff, ff, ff, ff, ff, ff, ff, ff, ff, ff, ff, ff, ff, ff, ff, ff, ff, ff, ff, ff, ff, ff, ff, ff, ff, ff, ff, ff, ff, ff, ff, ff, ff, ff, ff, ff, ff, ff, ff, ff, ff, ff, ff, ff, ff, ff, ff, ff, ff, ff, ff, ff, ff, ff, ff, ff, ff, ff, ff, ff, ff, ff, ff, ff, ff, ff, ff, ff, ff, ff, ff, ff, ff, ff, ff, ff, ff, ff, ff, ff, tt, tt, tt, tt, tt, tt, tt, tt, tt, tt, tt, tt, tt, tt, tt, tt, tt, tt, tt, tt, tt, tt, tt, tt, tt, tt, tt, tt, tt, tt, tt, tt, tt, tt, tt, tt, tt, tt, tt, tt, tt, tt, tt, tt, tt, tt, tt, tt, tt, tt, tt, tt, tt, tt, tt, tt, tt, tt, tt, tt, tt, tt, tt, tt, tt, tt, tt, tt, tt, tt, tt, tt, tt, tt, tt, tt, tt, tt, tt, tt, tt, tt, tt, tt, tt, tt, tt, tt, tt, tt, tt, tt, tt, tt, tt, tt, tt, tt, tt, tt, tt, tt, tt, tt, tt, tt, tt, tt, tt, tt, tt, tt, tt, tt, tt, tt, tt, tt, tt, tt, tt, tt, tt, tt, tt, tt, tt, tt, tt, tt, tt, tt, tt, tt, tt, tt, tt, tt, tt, tt, ff, ff, ff, ff, ff, ff, ff, ff, ff, ff, ff, ff, ff, ff, ff, ff, ff, ff, ff, ff, ff, ff, ff, ff, ff, ff, ff, ff, ff, ff, ff, ff, ff, ff, ff, ff, ff, ff, ff, ff, ff, ff, ff, ff, ff, ff, ff, ff, ff, ff, ff, ff, ff, ff, ff, ff, ff, ff, ff, ff, ff, ff, ff, ff, ff, ff, ff, ff, ff, ff, ff, ff, ff, ff, ff, ff, ff, ff, ff, ff, ff, ff, ff, ff, ff, ff, ff, ff, ff, ff, ff, ff, ff, ff, ff, ff, ff, ff, ff, ff, ff, ff, ff, ff, ff, ff, ff, ff, ff, ff, ff, ff, ff, ff, ff, ff, ff, ff, ff, ff, ff, ff, ff, ff, ff, ff, ff, ff, ff, ff, ff, ff, ff, ff, ff, ff, ff, ff, ff, ff, ff, ff, ff, ff, ff, ff, ff, ff, ff, ff, ff, ff, ff, ff, ff, ff, ff, ff, ff, ff, ff, ff, ff, ff, ff, ff, ff, ff, ff, ff, ff, ff, ff, ff, ff, ff, ff, ff, ff, ff, ff, ff, ff, ff] (fun kq f_ w' => ∃ (x194_3 : Int), (f_ 194) = .int .i64 x194_3 ∧ Aside0 (laws_FnRatesChanged.l0 kq l1 t339 t340 t341 t344 t352 t360 t361 (t344.length : Int) x194_3 = some r) ∧ Aside0 (kq ≤ kj49) ∧ Aside0 (Kd.R (Kd.int .i64) 3 w' w.heap.size (fun k_ => some k_ ≠ ((.slice Ao63 t344.length co63) : Value).ownBlock ∧ some k_ ≠ (v354 : Value).ownBlock ∧ some k_ ≠ (v362 : Value).ownBlock) (.slice Ao14 t339.length co14) t339) ∧ Aside0 (Kd.R (Kd.int .i64) 3 w' w.heap.size (fun k_ => some k_ ≠ ((.slice Ao14 t339.length co14) : Value).ownBlock ∧ some k_ ≠ (v354 : Value).ownBlock ∧ some k_ ≠ (v362 : Value).ownBlock) (.slice Ao63 t344.length co63) t344) ∧ Aside0 (Kd.R (Kd.int .i64) 3 w' w.heap.size (fun k_ => some k_ ≠ ((.slice Ao14 t339.length co14) : Value).ownBlock ∧ some k_ ≠ ((.slice Ao63 t344.length co63) : Value).ownBlock ∧ some k_ ≠ (v362 : Value).ownBlock) v354 t352) ∧ Aside0 (Kd.R (Kd.int .i64) 3 w' w.heap.size (fun k_ => some k_ ≠ ((.slice Ao14 t339.length co14) : Value).ownBlock ∧ some k_ ≠ ((.slice Ao63 t344.length co63) : Value).ownBlock ∧ some k_ ≠ (v354 : Value).ownBlock) v362 t360) ∧ Aside0 (Below w.heap.size w w')) ?atStart_l0 ?round_l0
          case atStart_l0 => (try simp only [List.getD_cons_succ, List.getD_cons_zero]); exact ⟨(0), (by first | rfl | (simp; done) | (simp [*]; done)), H', ⟨Nat.le_refl _⟩, ⟨by (with_reducible repeat (first | apply Kd.R_alloc | apply Kd.R_drewN | apply Kd.R_drew)); exact HO_5.out⟩, ⟨by (with_reducible repeat (first | apply Kd.R_alloc | apply Kd.R_drewN | apply Kd.R_drew)); exact HO_8.out⟩, ⟨by (with_reducible repeat (first | apply Kd.R_alloc | apply Kd.R_drewN | apply Kd.R_drew)); exact HO_12.out⟩, ⟨by (with_reducible repeat (first | apply Kd.R_alloc | apply Kd.R_drewN | apply Kd.R_drew)); exact HO_16.out⟩, ⟨by repeat (first | (with_reducible first | exact HB.out | apply below_alloc | apply pw_below_drewN | apply below_drew1) | exact HB.out)⟩⟩
          case round_l0 => as_aux_lemma =>
           intro gk f_ wr hrel J_ K_ hL_l0 hK_
           dsimp only [ov]
           generalize f_ 194 = v194 at hrel ⊢
           clear H'
           try clear c1
           try clear c2
           try clear p2
           try clear c3
           try clear c4
           try clear c5
           try clear c6
           try clear c21
           try clear c21b0
           try clear c21b1
           try clear c21b2
           try clear c23
           try clear c24
           try clear c24b0
           try clear c24b1
           try clear c24b2
           try clear c26
           try clear c27
           try clear c27b0
           try clear c27b1
           try clear c27b2
           try clear c29
           try clear c30
           try clear c30b0
           try clear c30b1
           try clear c30b2
           try clear c31
           try clear c46
           try clear c48
           try clear c51
           try clear c52
           try clear c52b0
           try clear c52b1
           try clear c53
           try clear c53b0
           try clear c53b1
           try clear c54
           try clear c62
           try clear p2
           obtain ⟨x194_3, rfl, HA, HK3, HO_5, HO_8, HO_12, HO_16, HB⟩ := hrel
           cases gk with
           | zero => exact absurd HA.out (by simp [laws_FnRatesChanged.l0])
           | succ k3 =>
            have H := HA.out
            clear HA
            simp only [laws_FnRatesChanged.l0] at H
            by_cases c64 : x194_3 < (t344.length : Int)
            ·rw [if_pos c64] at H
             have c64b0 : decide (x194_3 < (t344.length : Int)) = true := decide_eq_true c64
             clear c64
             replace H := Option.bind_eq_some_iff.mp H
             obtain ⟨⟨t373, t374, t375⟩, A650, H⟩ := H
             replace H : (if t375 = true then (if t373 ≥ (t339.length : Int) then (some false) else (if (wrap64 ((wrap64 (t373 * t340)) + t374)) = (wrap64 (x194_3 * t341)) then (if 0 ≤ x194_3 then (if x194_3 < (t344.length : Int) then (if 0 ≤ t373 then (if t373 < (t339.length : Int) then (if (rd t344 x194_3) = (rd t339 t373) then (if t374 = 0 then (if x194_3 < (t352.length : Int) then (laws_FnRatesChanged.j3 k3 l1 t339 t340 t341 t344 t352 t360 t361 x194_3 t373 t374 (t344.length : Int) x194_3 ((rd t352 x194_3) != (rd t339 t373))) else (none)) else (laws_FnRatesChanged.j3 k3 l1 t339 t340 t341 t344 t352 t360 t361 x194_3 t373 t374 (t344.length : Int) x194_3 false)) else (some false)) else (none)) else (none)) else (none)) else (none)) else (some false))) else (some false)) = some r := H
             have A65 := Aside0.mk A650
             clear A650
             have HC66 := Aside0.mk H
             clear H
             go_upto_region 20 with (first | (go_at_call 16; (with_reducible refine (impl_SourceOf.calls x194_3 t340 t341 t373 t374 t375 _ A65.out).mono ?_); rintro e w' ⟨rfl, ⟨nd, rfl⟩⟩; (try first | exact ⟨rfl, _, World.drewN_drewN _ _ _⟩ | exact ⟨rfl, _, Eq.trans (World.drewN_drewN _ _ _) (congrArg (World.drewN _) (Nat.add_assoc _ _ _))⟩)))
             (try simp only [Act.put, List.setIfInBounds_toArray, List.set_cons_zero, List.set_cons_succ])
             refine cutF [ff, ff, ff, ff, ff, ff, ff, ff, ff, ff, ff, ff, ff, ff, ff, ff, ff, ff, ff, ff, ff, ff, ff, ff, ff, ff, ff, ff, ff, ff, ff, ff, ff, ff, ff, ff, ff, ff, ff, ff, ff, ff, ff, ff, ff, ff, ff, ff, ff, ff, ff, ff, ff, ff, ff, ff, ff, ff, ff, ff, ff, ff, ff, ff, ff, ff, ff, ff, ff, ff, ff, ff, ff, ff, ff, ff, ff, ff, ff, ff, ff, ff, ff, ff, ff, ff, ff, ff, ff, ff, ff, ff, ff, ff, ff, ff, ff, ff, ff, ff, ff, ff, ff, ff, ff, ff, ff, ff, ff, ff, ff, ff, ff, ff, ff, ff, ff, ff, ff, ff, ff, ff, ff, ff, ff, ff, ff, ff, ff, ff, ff, ff, ff, ff, ff, ff, ff, ff, ff, ff, ff, ff, ff, ff, ff, ff, ff, ff, ff, ff, ff, ff, ff, ff, ff, ff, ff, ff, ff, ff, ff, ff, ff, ff, ff, ff, ff, ff, ff, ff, ff, ff, ff, ff, ff, ff, ff, ff, ff, ff, ff, ff, ff, ff, ff, ff, ff, ff, ff, ff, ff, ff, ff, ff, ff, tt, tt, tt, tt, tt, tt, tt, tt, tt, tt, tt, tt, tt, tt, tt, tt, tt, tt, tt, tt, tt, tt, tt, tt, tt, tt, tt, tt, tt, tt, tt, tt, tt, tt, tt, tt, tt, tt, tt, tt, tt, tt, tt, tt, tt, tt, tt, tt, tt, tt, tt, tt, tt, tt, tt, tt, tt, tt, tt, tt, tt, tt, tt, tt, tt, tt, tt, tt, tt, tt, tt, tt, tt, tt, tt, tt, tt, tt, tt, tt, tt, tt, tt, tt, tt, tt, tt, tt, tt, tt, tt, tt, tt, tt, tt, tt, tt, tt, tt, tt, tt, tt, tt, tt, tt, tt, tt, tt, tt, tt, tt, tt, tt, tt, tt, tt, tt, tt, tt, tt, tt, tt, tt, tt, tt, tt, tt, tt, tt, tt, tt, tt, tt, tt, tt, tt, tt, tt, tt, ff, ff, ff, ff, ff, ff, ff, ff, ff, ff, ff, ff, ff, ff, ff, ff, ff, ff, ff, ff, ff, ff, ff, ff, ff, ff, ff, ff, ff, ff, ff, ff, ff, ff, ff, ff, ff, ff, ff, ff, ff, ff, ff, ff, ff, ff, ff, ff, ff, ff, ff, ff, ff, ff, ff, ff, ff, ff, ff, ff, ff, ff, ff, ff, ff, ff, ff, ff, ff, ff, ff, ff, ff, ff, ff, ff, ff, ff, ff, ff, ff, ff, ff, ff, ff, ff, ff, ff, ff, ff, ff, ff, ff, ff, ff, ff, ff, ff, ff, ff, ff, ff, ff, ff, ff, ff, ff, ff, ff, ff, ff, ff, ff, ff, ff, ff, ff, ff, ff, ff, ff, ff, ff, ff, ff, ff, ff, ff, ff, ff, ff, ff, ff, ff, ff, ff, ff, ff, ff, ff, ff, ff, ff, ff, ff, ff, ff, ff, ff, ff, ff, ff, ff, ff, ff, ff, ff, ff, ff, ff, ff, ff, ff, ff, ff, ff, ff, ff, ff, ff, ff, ff, ff, ff, ff, ff, ff, ff, ff, ff, ff, ff, ff, ff] (fun f_ wc => ∃ (kq : Nat) (x249_65 : Bool), (f_ 249) = .bool x249_65 ∧ Aside0 (laws_FnRatesChanged.j3 kq l1 t339 t340 t341 t344 t352 t360 t361 x194_3 t373 t374 (t344.length : Int) x194_3 x249_65 = some r) ∧ Aside0 (kq ≤ k3) ∧ Aside0 (Kd.R (Kd.int .i64) 3 wc w.heap.size (fun k_ => some k_ ≠ ((.slice Ao63 t344.length co63) : Value).ownBlock ∧ some k_ ≠ (v354 : Value).ownBlock ∧ some k_ ≠ (v362 : Value).ownBlock) (.slice Ao14 t339.length co14) t339) ∧ Aside0 (Kd.R (Kd.int .i64) 3 wc w.heap.size (fun k_ => some k_ ≠ ((.slice Ao14 t339.length co14) : Value).ownBlock ∧ some k_ ≠ (v354 : Value).ownBlock ∧ some k_ ≠ (v362 : Value).ownBlock) (.slice Ao63 t344.length co63) t344) ∧ Aside0 (Kd.R (Kd.int .i64) 3 wc w.heap.size (fun k_ => some k_ ≠ ((.slice Ao14 t339.length co14) : Value).ownBlock ∧ some k_ ≠ ((.slice Ao63 t344.length co63) : Value).ownBlock ∧ some k_ ≠ (v362 : Value).ownBlock) v354 t352) ∧ Aside0 (Kd.R (Kd.int .i64) 3 wc w.heap.size (fun k_ => some k_ ≠ ((.slice Ao14 t339.length co14) : Value).ownBlock ∧ some k_ ≠ ((.slice Ao63 t344.length co63) : Value).ownBlock ∧ some k_ ≠ (v354 : Value).ownBlock) v362 t360) ∧ Aside0 (Below w.heap.size w wc)) ?first_j3 ?rest_j3
             case first_j3 => as_aux_lemma =>
              intro J_ K_ hJ_j3 hK_
              have H := HC66.out
              clear HC66
              by_cases c67 : t375 = true
              ·subst c67
               have H1 : (if t373 ≥ (t339.length : Int) then (some false) else (if (wrap64 ((wrap64 (t373 * t340)) + t374)) = (wrap64 (x194_3 * t341)) then (if 0 ≤ x194_3 then (if x194_3 < (t344.length : Int) then (if 0 ≤ t373 then (if t373 < (t339.length : Int) then (if (rd t344 x194_3) = (rd t339 t373) then (if t374 = 0 then (if x194_3 < (t352.length : Int) then (laws_FnRatesChanged.j3 k3 l1 t339 t340 t341 t344 t352 t360 t361 x194_3 t373 t374 (t344.length : Int) x194_3 ((rd t352 x194_3) != (rd t339 t373))) else (none)) else (laws_FnRatesChanged.j3 k3 l1 t339 t340 t341 t344 t352 t360 t361 x194_3 t373 t374 (t344.length : Int) x194_3 false)) else (some false)) else (none)) else (none)) else (none)) else (none)) else (some false))) = some r := by rw [if_pos rfl] at H; exact H
               clear H
               have H := H1
               clear H1
               by_cases c68 : t373 ≥ (t339.length : Int)
               ·rw [if_pos c68] at H
                have c68b0 : decide ((t339.length : Int) ≤ t373) = true := decide_eq_true c68
                clear c68
                (first | rw [c68b0] | (simp only [i64_w, i32_w]; rw [c68b0]) | skip)
                obtain rfl := Option.some.inj H
                exact absurd HT.out (by simp)
               ·rw [if_neg c68] at H
                have c68b0 : decide ((t339.length : Int) ≤ t373) = false := decide_eq_false c68
                clear c68
                (first | rw [c68b0] | (simp only [i64_w, i32_w]; rw [c68b0]) | skip)
                by_cases c69 : (wrap64 ((wrap64 (t373 * t340)) + t374)) = (wrap64 (x194_3 * t341))
                ·rw [if_pos c69] at H
                 have c69b0 : ((wrap64 ((wrap64 (t373 * t340)) + t374)) == (wrap64 (x194_3 * t341))) = true := beq_iff_eq.mpr c69
                 have c69b1 : ((wrap64 ((wrap64 (t373 * t340)) + t374)) != (wrap64 (x194_3 * t341))) = false := bne_eq_false_iff_eq.mpr c69
                 clear c69
                 by_cases c70 : 0 ≤ x194_3
                 ·rw [if_pos c70] at H
                  have c70b0 : decide (0 ≤ x194_3) = true := decide_eq_true c70
                  clear c70
                  by_cases c71 : x194_3 < (t344.length : Int)
                  ·rw [if_pos c71] at H
                   have c71b0 : decide (x194_3 < (t344.length : Int)) = true := decide_eq_true c71
                   clear c71
                   by_cases c72 : 0 ≤ t373
                   ·rw [if_pos c72] at H
                    have c72b0 : decide (0 ≤ t373) = true := decide_eq_true c72
                    clear c72
                    by_cases c73 : t373 < (t339.length : Int)
                    ·rw [if_pos c73] at H
                     have c73b0 : decide (t373 < (t339.length : Int)) = true := decide_eq_true c73
                     clear c73
                     by_cases c74 : (rd t344 x194_3) = (rd t339 t373)
                     ·rw [if_pos c74] at H
                      have c74b0 : ((rd t344 x194_3) == (rd t339 t373)) = true := beq_iff_eq.mpr c74
                      have c74b1 : ((rd t344 x194_3) != (rd t339 t373)) = false := bne_eq_false_iff_eq.mpr c74
                      clear c74
                      by_cases c75 : t374 = 0
                      ·rw [if_pos c75] at H
                       have c75b0 : (t374 == 0) = true := beq_iff_eq.mpr c75
                       have c75b1 : (t374 != 0) = false := bne_eq_false_iff_eq.mpr c75
                       clear c75
                       by_cases c76 : x194_3 < (t352.length : Int)
                       ·rw [if_pos c76] at H
                        have c76b0 : decide (x194_3 < (t352.length : Int)) = true := decide_eq_true c76
                        clear c76
                        have H' := Aside0.mk H
                        clear H
                        have p376 : 0 ≤ (x194_3 : Int) := of_decide_eq_true (by first | (with_reducible assumption) | assumption)
                        have q376 : x194_3 < (t344.length : Int) := of_decide_eq_true (by first | (with_reducible assumption) | assumption)
                        obtain ⟨ad376, e376, hx376_0⟩ := Kd.at_int (Kd.R_reads' HO_8.out).2.2 x194_3 p376 q376
                        cases e376
                        replace p376 := eq_true p376
                        replace q376 := eq_true q376
                        have p377 : 0 ≤ (t373 : Int) := of_decide_eq_true (by first | (with_reducible assumption) | assumption)
                        have q377 : t373 < (t339.length : Int) := of_decide_eq_true (by first | (with_reducible assumption) | assumption)
                        obtain ⟨ad377, e377, hx377_0⟩ := Kd.at_int (Kd.R_reads' HO_5.out).2.2 t373 p377 q377
                        cases e377
                        replace p377 := eq_true p377
                        replace q377 := eq_true q377
                        obtain ⟨Ao77, co77, eo77⟩ := Kd.R_slice HO_12.out
                        subst eo77
                        have p378 : 0 ≤ (x194_3 : Int) := of_decide_eq_true (by first | (with_reducible assumption) | assumption)
                        have q378 : x194_3 < (t352.length : Int) := of_decide_eq_true (by first | (with_reducible assumption) | assumption)
                        obtain ⟨ad378, e378, hx378_0⟩ := Kd.at_int (Kd.R_reads' HO_12.out).2.2 x194_3 p378 q378
                        cases e378
                        replace p378 := eq_true p378
                        replace q378 := eq_true q378
                        have p379 : 0 ≤ (t373 : Int) := of_decide_eq_true (by first | (with_reducible assumption) | assumption)
                        have q379 : t373 < (t339.length : Int) := of_decide_eq_true (by first | (with_reducible assumption) | assumption)
                        obtain ⟨ad379, e379, hx379_0⟩ := Kd.at_int (Kd.R_reads' HO_5.out).2.2 t373 p379 q379
                        obtain rfl : ad377 = ad379 := (by injection e379)
                        replace p379 := eq_true p379
                        replace q379 := eq_true q379
                        go_wp2
                        repeat (go_quiet (fail); try go_wp2)
                        refine meetF hJ_j3 (by kernel_rfl) (by kernel_rfl) ?rel_z78
                        case rel_z78 => (try simp only [List.getD_cons_succ, List.getD_cons_zero]); exact ⟨_, (((rd t352 x194_3) != (rd t339 t373))), (by first | rfl | (simp; done) | (simp [*]; done)), H', ⟨by have := HJ11.out; have := HJ49.out; have := HK3.out; first | omega | exact Nat.le_refl _⟩, ⟨by (with_reducible repeat (first | apply Kd.R_alloc | apply Kd.R_drewN | apply Kd.R_drew)); exact HO_5.out⟩, ⟨by (with_reducible repeat (first | apply Kd.R_alloc | apply Kd.R_drewN | apply Kd.R_drew)); exact HO_8.out⟩, ⟨by (with_reducible repeat (first | apply Kd.R_alloc | apply Kd.R_drewN | apply Kd.R_drew)); exact HO_12.out⟩, ⟨by (with_reducible repeat (first | apply Kd.R_alloc | apply Kd.R_drewN | apply Kd.R_drew)); exact HO_16.out⟩, ⟨by repeat (first | (with_reducible first | exact HB.out | apply below_alloc | apply pw_below_drewN | apply below_drew1) | exact HB.out)⟩⟩
                       ·rw [if_neg c76] at H
                        exact absurd H (by simp)
                      ·rw [if_neg c75] at H
                       have c75b0 : (t374 == 0) = false := beq_eq_false_iff_ne.mpr c75
                       have c75b1 : (t374 != 0) = true := bne_iff_ne.mpr c75
                       have H' := Aside0.mk H
                       clear H
                       have p376 : 0 ≤ (x194_3 : Int) := of_decide_eq_true (by first | (with_reducible assumption) | assumption)
                       have q376 : x194_3 < (t344.length : Int) := of_decide_eq_true (by first | (with_reducible assumption) | assumption)
                       obtain ⟨ad376, e376, hx376_0⟩ := Kd.at_int (Kd.R_reads' HO_8.out).2.2 x194_3 p376 q376
                       cases e376
                       replace p376 := eq_true p376
                       replace q376 := eq_true q376
                       have p377 : 0 ≤ (t373 : Int) := of_decide_eq_true (by first | (with_reducible assumption) | assumption)
                       have q377 : t373 < (t339.length : Int) := of_decide_eq_true (by first | (with_reducible assumption) | assumption)
                       obtain ⟨ad377, e377, hx377_0⟩ := Kd.at_int (Kd.R_reads' HO_5.out).2.2 t373 p377 q377
                       cases e377
                       replace p377 := eq_true p377
                       replace q377 := eq_true q377
                       go_wp2
                       repeat (go_quiet (fail); try go_wp2)
                       refine meetF hJ_j3 (by kernel_rfl) (by kernel_rfl) ?rel_z79
                       case rel_z79 => (try simp only [List.getD_cons_succ, List.getD_cons_zero]); exact ⟨_, (false), (by first | rfl | (simp; done) | (simp [*]; done)), H', ⟨by have := HJ11.out; have := HJ49.out; have := HK3.out; first | omega | exact Nat.le_refl _⟩, ⟨by (with_reducible repeat (first | apply Kd.R_alloc | apply Kd.R_drewN | apply Kd.R_drew)); exact HO_5.out⟩, ⟨by (with_reducible repeat (first | apply Kd.R_alloc | apply Kd.R_drewN | apply Kd.R_drew)); exact HO_8.out⟩, ⟨by (with_reducible repeat (first | apply Kd.R_alloc | apply Kd.R_drewN | apply Kd.R_drew)); exact HO_12.out⟩, ⟨by (with_reducible repeat (first | apply Kd.R_alloc | apply Kd.R_drewN | apply Kd.R_drew)); exact HO_16.out⟩, ⟨by repeat (first | (with_reducible first | exact HB.out | apply below_alloc | apply pw_below_drewN | apply below_drew1) | exact HB.out)⟩⟩
                     ·rw [if_neg c74] at H
                      have c74b0 : ((rd t344 x194_3) == (rd t339 t373)) = false := beq_eq_false_iff_ne.mpr c74
                      have c74b1 : ((rd t344 x194_3) != (rd t339 t373)) = true := bne_iff_ne.mpr c74
                      obtain rfl := Option.some.inj H
                      exact absurd HT.out (by simp)
                    ·rw [if_neg c73] at H
                     exact absurd H (by simp)
                   ·rw [if_neg c72] at H
                    exact absurd H (by simp)
                  ·rw [if_neg c71] at H
                   exact absurd H (by simp)
                 ·rw [if_neg c70] at H
                  exact absurd H (by simp)
                ·rw [if_neg c69] at H
                 have c69b0 : ((wrap64 ((wrap64 (t373 * t340)) + t374)) == (wrap64 (x194_3 * t341))) = false := beq_eq_false_iff_ne.mpr c69
                 have c69b1 : ((wrap64 ((wrap64 (t373 * t340)) + t374)) != (wrap64 (x194_3 * t341))) = true := bne_iff_ne.mpr c69
                 obtain rfl := Option.some.inj H
                 exact absurd HT.out (by simp)
              ·replace c67 := Bool.eq_false_iff.mpr c67
               subst c67
               have H1 : (some false) = some r := by rw [if_neg (show ¬ (false = true) by decide)] at H; exact H
               clear H
               have H := H1
               clear H1
               obtain rfl := Option.some.inj H
               exact absurd HT.out (by simp)
             case rest_j3 => as_aux_lemma =>
              intro f_ wc hcut
              dsimp only [ov]
              generalize f_ 249 = v249 at hcut ⊢
              clear HC66
              try clear c1
              try clear c2
              try clear p2
              try clear c3
              try clear p3
              try clear q3
              try clear hx3
              try clear c4
              try clear c5
              try clear c6
              try clear p6
              try clear c7
              try clear c21
              try clear c21b0
              try clear c21b1
              try clear c21b2
              try clear c23
              try clear c24
              try clear c24b0
              try clear c24b1
              try clear c24b2
              try clear c26
              try clear c27
              try clear c27b0
              try clear c27b1
              try clear c27b2
              try clear c29
              try clear c30
              try clear c30b0
              try clear c30b1
              try clear c30b2
              try clear c31
              try clear p37
              try clear q37
              try clear hx37
              try clear c46
              try clear c48
              try clear c51
              try clear c52
              try clear c52b0
              try clear c52b1
              try clear c53
              try clear c53b0
              try clear c53b1
              try clear c54
              try clear c62
              try clear c64
              try clear c64b0
              try clear p64
              try clear c67
              try clear c68
              try clear c68b0
              try clear c69
              try clear c69b0
              try clear c69b1
              try clear c70
              try clear c70b0
              try clear c71
              try clear c71b0
              try clear c72
              try clear c72b0
              try clear c73
              try clear c73b0
              try clear c74
              try clear c74b0
              try clear c74b1
              try clear c75
              try clear c75b0
              try clear c75b1
              try clear c76
              try clear c76b0
              try clear hx376_0
              try clear hx377_0
              try clear hx378_0
              try clear hx379_0
              try clear p2
              try clear p376
              try clear p377
              try clear p378
              try clear p379
              try clear q376
              try clear q377
              try clear q378
              try clear q379
              obtain ⟨kq, x249_65, rfl, HA, HJ65, HO_5, HO_8, HO_12, HO_16, HB⟩ := hcut
              cases kq with
              | zero => exact absurd HA.out (by simp [laws_FnRatesChanged.j3])
              | succ kj65 =>
               have H := HA.out
               clear HA
               simp only [laws_FnRatesChanged.j3] at H
               by_cases c80 : x249_65 = true
               ·subst c80
                have H1 : (some false) = some r := by rw [if_pos rfl] at H; exact H
                clear H
                have H := H1
                clear H1
                obtain rfl := Option.some.inj H
                exact absurd HT.out (by simp)
               ·replace c80 := Bool.eq_false_iff.mpr c80
                subst c80
                have H1 : (if (wrap64 (t373 + 1)) < (t339.length : Int) then (laws_FnRatesChanged.j4 kj65 l1 t339 t340 t341 t344 t352 t360 t361 x194_3 t373 t374 (wrap64 (t373 + 1)) (t344.length : Int) x194_3) else (laws_FnRatesChanged.j4 kj65 l1 t339 t340 t341 t344 t352 t360 t361 x194_3 t373 t374 t373 (t344.length : Int) x194_3)) = some r := by rw [if_neg (show ¬ (false = true) by decide)] at H; exact H
                clear H
                have H := H1
                clear H1
                have HC81 := Aside0.mk H
                clear H
                go_upto_if 255 with (fail)
                refine cutF [ff, ff, ff, ff, ff, ff, ff, ff, ff, ff, ff, ff, ff, ff, ff, ff, ff, ff, ff, ff, ff, ff, ff, ff, ff, ff, tt, ff, ff, ff, ff, ff, ff, ff, ff, ff, ff, ff, ff, ff, ff, ff, ff, ff, ff, ff, ff, ff, ff, ff, ff, ff, ff, ff, ff, ff, ff, ff, ff, ff, ff, ff, ff, ff, ff, ff, ff, ff, ff, ff, ff, ff, ff, ff, ff, ff, ff, ff, ff, ff, ff, ff, ff, ff, ff, ff, ff, ff, ff, ff, ff, ff, ff, ff, ff, ff, ff, ff, ff, ff, ff, ff, ff, ff, ff, ff, ff, ff, ff, ff, ff, ff, ff, ff, ff, ff, ff, ff, ff, ff, ff, ff, ff, ff, ff, ff, ff, ff, ff, ff, ff, ff, ff, ff, ff, ff, ff, ff, ff, ff, ff, ff, ff, ff, ff, ff, ff, ff, ff, ff, ff, ff, ff, ff, ff, ff, ff, ff, ff, ff, ff, ff, ff, ff, ff, ff, ff, ff, ff, ff, ff, ff, ff, ff, ff, ff, ff, ff, ff, ff, ff, ff, ff, ff, ff, ff, ff, ff, ff, ff, ff, ff, ff, ff, ff, tt, tt, tt, tt, tt, tt, tt, tt, tt, tt, tt, tt, tt, tt, tt, tt, tt, tt, tt, tt, tt, tt, tt, tt, tt, tt, tt, tt, tt, tt, tt, tt, tt, tt, tt, tt, tt, tt, tt, tt, tt, tt, tt, tt, tt, tt, tt, tt, tt, tt, tt, tt, tt, tt, tt, tt, tt, tt, tt, tt, tt, tt, tt, tt, tt, tt, tt, tt, tt, tt, tt, tt, tt, tt, tt, tt, tt, tt, tt, tt, tt, tt, tt, tt, tt, tt, tt, tt, tt, tt, tt, tt, tt, tt, tt, tt, tt, tt, tt, tt, tt, tt, tt, tt, tt, tt, tt, tt, tt, tt, tt, tt, tt, tt, tt, tt, tt, tt, tt, tt, tt, tt, tt, tt, tt, tt, tt, tt, tt, tt, tt, tt, tt, tt, tt, tt, tt, tt, tt, ff, ff, ff, ff, ff, ff, ff, ff, ff, ff, ff, ff, ff, ff, ff, ff, ff, ff, ff, ff, ff, ff, ff, ff, ff, ff, ff, ff, ff, ff, ff, ff, ff, ff, ff, ff, ff, ff, ff, ff, ff, ff, ff, ff, ff, ff, ff, ff, ff, ff, ff, ff, ff, ff, ff, ff, ff, ff, ff, ff, ff, ff, ff, ff, ff, ff, ff, ff, ff, ff, ff, ff, ff, ff, ff, ff, ff, ff, ff, ff, ff, ff, ff, ff, ff, ff, ff, ff, ff, ff, ff, ff, ff, ff, ff, ff, ff, ff, ff, ff, ff, ff, ff, ff, ff, ff, ff, ff, ff, ff, ff, ff, ff, ff, ff, ff, ff, ff, ff, ff, ff, ff, ff, ff, ff, ff, ff, ff, ff, ff, ff, ff, ff, ff, ff, ff, ff, ff, ff, ff, ff, ff, ff, ff, ff, ff, ff, ff, ff, ff, ff, ff, ff, ff, ff, ff, ff, ff, ff, ff, ff, ff, ff, ff, ff, ff, ff, ff, ff, ff, ff, ff, ff, ff, ff, ff, ff, ff, ff, ff, ff, ff, ff, ff] (fun f_ wc => ∃ (kq : Nat) (x26_80 : Int), (f_ 26) = .int .i64 x26_80 ∧ Aside0 (laws_FnRatesChanged.j4 kq l1 t339 t340 t341 t344 t352 t360 t361 x194_3 t373 t374 x26_80 (t344.length : Int) x194_3 = some r) ∧ Aside0 (kq ≤ kj65) ∧ Aside0 (Kd.R (Kd.int .i64) 3 wc w.heap.size (fun k_ => some k_ ≠ ((.slice Ao63 t344.length co63) : Value).ownBlock ∧ some k_ ≠ (v354 : Value).ownBlock ∧ some k_ ≠ (v362 : Value).ownBlock) (.slice Ao14 t339.length co14) t339) ∧ Aside0 (Kd.R (Kd.int .i64) 3 wc w.heap.size (fun k_ => some k_ ≠ ((.slice Ao14 t339.length co14) : Value).ownBlock ∧ some k_ ≠ (v354 : Value).ownBlock ∧ some k_ ≠ (v362 : Value).ownBlock) (.slice Ao63 t344.length co63) t344) ∧ Aside0 (Kd.R (Kd.int .i64) 3 wc w.heap.size (fun k_ => some k_ ≠ ((.slice Ao14 t339.length co14) : Value).ownBlock ∧ some k_ ≠ ((.slice Ao63 t344.length co63) : Value).ownBlock ∧ some k_ ≠ (v362 : Value).ownBlock) v354 t352) ∧ Aside0 (Kd.R (Kd.int .i64) 3 wc w.heap.size (fun k_ => some k_ ≠ ((.slice Ao14 t339.length co14) : Value).ownBlock ∧ some k_ ≠ ((.slice Ao63 t344.length co63) : Value).ownBlock ∧ some k_ ≠ (v354 : Value).ownBlock) v362 t360) ∧ Aside0 (Below w.heap.size w wc)) ?first_j4 ?rest_j4
                case first_j4 => as_aux_lemma =>
                 intro J_ K_ hJ_j4 hK_
                 have H := HC81.out
                 clear HC81
                 by_cases c82 : (wrap64 (t373 + 1)) < (t339.length : Int)
                 ·rw [if_pos c82] at H
                  have c82b0 : decide ((wrap64 (t373 + 1)) < (t339.length : Int)) = true := decide_eq_true c82
                  clear c82
                  (first | rw [c82b0] | (simp only [i64_w, i32_w]; rw [c82b0]) | skip)
                  have H' := Aside0.mk H
                  clear H
                  go_wp2
                  refine meetF hJ_j4 (by kernel_rfl) (by kernel_rfl) ?rel_z83
                  case rel_z83 => (try simp only [List.getD_cons_succ, List.getD_cons_zero]); exact ⟨_, (wrap64 (t373 + 1)), (by first | rfl | (simp; done) | (simp [*]; done)), H', ⟨by have := HJ11.out; have := HJ49.out; have := HK3.out; have := HJ65.out; first | omega | exact Nat.le_refl _⟩, ⟨by (with_reducible repeat (first | apply Kd.R_alloc | apply Kd.R_drewN | apply Kd.R_drew)); exact HO_5.out⟩, ⟨by (with_reducible repeat (first | apply Kd.R_alloc | apply Kd.R_drewN | apply Kd.R_drew)); exact HO_8.out⟩, ⟨by (with_reducible repeat (first | apply Kd.R_alloc | apply Kd.R_drewN | apply Kd.R_drew)); exact HO_12.out⟩, ⟨by (with_reducible repeat (first | apply Kd.R_alloc | apply Kd.R_drewN | apply Kd.R_drew)); exact HO_16.out⟩, ⟨by repeat (first | (with_reducible first | exact HB.out | apply below_alloc | apply pw_below_drewN | apply below_drew1) | exact HB.out)⟩⟩
                 ·rw [if_neg c82] at H
                  have c82b0 : decide ((wrap64 (t373 + 1)) < (t339.length : Int)) = false := decide_eq_false c82
                  clear c82
                  (first | rw [c82b0] | (simp only [i64_w, i32_w]; rw [c82b0]) | skip)
                  have H' := Aside0.mk H
                  clear H
                  go_wp2
                  refine meetF hJ_j4 (by kernel_rfl) (by kernel_rfl) ?rel_z84
                  case rel_z84 => (try simp only [List.getD_cons_succ, List.getD_cons_zero]); exact ⟨_, (t373), (by first | rfl | (simp; done) | (simp [*]; done)), H', ⟨by have := HJ11.out; have := HJ49.out; have := HK3.out; have := HJ65.out; first | omega | exact Nat.le_refl _⟩, ⟨by (with_reducible repeat (first | apply Kd.R_alloc | apply Kd.R_drewN | apply Kd.R_drew)); exact HO_5.out⟩, ⟨by (with_reducible repeat (first | apply Kd.R_alloc | apply Kd.R_drewN | apply Kd.R_drew)); exact HO_8.out⟩, ⟨by (with_reducible repeat (first | apply Kd.R_alloc | apply Kd.R_drewN | apply Kd.R_drew)); exact HO_12.out⟩, ⟨by (with_reducible repeat (first | apply Kd.R_alloc | apply Kd.R_drewN | apply Kd.R_drew)); exact HO_16.out⟩, ⟨by repeat (first | (with_reducible first | exact HB.out | apply below_alloc | apply pw_below_drewN | apply below_drew1) | exact HB.out)⟩⟩
                case rest_j4 => as_aux_lemma =>
                 intro f_ wc hcut
                 dsimp only [ov]
                 generalize f_ 26 = v26 at hcut ⊢
                 clear HC81
                 try clear c1
                 try clear c2
                 try clear p2
                 try clear c3
                 try clear p3
                 try clear q3
                 try clear hx3
                 try clear c4
                 try clear c5
                 try clear c6
                 try clear p6
                 try clear c7
                 try clear c8
                 try clear c21
                 try clear c21b0
                 try clear c21b1
                 try clear c21b2
                 try clear c23
                 try clear c24
                 try clear c24b0
                 try clear c24b1
                 try clear c24b2
                 try clear c26
                 try clear c27
                 try clear c27b0
                 try clear c27b1
                 try clear c27b2
                 try clear c29
                 try clear c30
                 try clear c30b0
                 try clear c30b1
                 try clear c30b2
                 try clear c31
                 try clear p37
                 try clear q37
                 try clear hx37
                 try clear c46
                 try clear c48
                 try clear c51
                 try clear c52
                 try clear c52b0
                 try clear c52b1
                 try clear c53
                 try clear c53b0
                 try clear c53b1
                 try clear c54
                 try clear c62
                 try clear c64
                 try clear c64b0
                 try clear p64
                 try clear c67
                 try clear c68
                 try clear c68b0
                 try clear c69
                 try clear c69b0
                 try clear c69b1
                 try clear c70
                 try clear c70b0
                 try clear c71
                 try clear c71b0
                 try clear c72
                 try clear c72b0
                 try clear c73
                 try clear c73b0
                 try clear c74
                 try clear c74b0
                 try clear c74b1
                 try clear c75
                 try clear c75b0
                 try clear c75b1
                 try clear c76
                 try clear c76b0
                 try clear c80
                 try clear c82
                 try clear c82b0
                 try clear hx376_0
                 try clear hx377_0
                 try clear hx378_0
                 try clear hx379_0
                 try clear p2
                 try clear p3
                 try clear p37
                 try clear p376
                 try clear p377
                 try clear p378
                 try clear p379
                 try clear p6
                 try clear p64
                 try clear q3
                 try clear q37
                 try clear q376
                 try clear q377
                 try clear q378
                 try clear q379
                 obtain ⟨kq, x26_80, rfl, HA, HJ80, HO_5, HO_8, HO_12, HO_16, HB⟩ := hcut
                 cases kq with
                 | zero => exact absurd HA.out (by simp [laws_FnRatesChanged.j4])
                 | succ kj80 =>
                  have H := HA.out
                  clear HA
                  simp only [laws_FnRatesChanged.j4] at H
                  have HC85 := Aside0.mk H
                  clear H
                  go_upto_region 25 with (fail)
                  refine cutF [ff, ff, ff, ff, ff, ff, ff, ff, ff, ff, ff, ff, ff, ff, ff, ff, ff, ff, ff, ff, ff, ff, ff, ff, ff, ff, ff, ff, ff, ff, ff, ff, ff, ff, ff, ff, ff, ff, ff, ff, ff, ff, ff, ff, ff, ff, ff, ff, ff, ff, ff, ff, ff, ff, ff, ff, ff, ff, ff, ff, ff, ff, ff, ff, ff, ff, ff, ff, ff, ff, ff, ff, ff, ff, ff, ff, ff, ff, ff, ff, ff, ff, ff, ff, ff, ff, ff, ff, ff, ff, ff, ff, ff, ff, ff, ff, ff, ff, ff, ff, ff, ff, ff, ff, ff, ff, ff, ff, ff, ff, ff, ff, ff, ff, ff, ff, ff, ff, ff, ff, ff, ff, ff, ff, ff, ff, ff, ff, ff, ff, ff, ff, ff, ff, ff, ff, ff, ff, ff, ff, ff, ff, ff, ff, ff, ff, ff, ff, ff, ff, ff, ff, ff, ff, ff, ff, ff, ff, ff, ff, ff, ff, ff, ff, ff, ff, ff, ff, ff, ff, ff, ff, ff, ff, ff, ff, ff, ff, ff, ff, ff, ff, ff, ff, ff, ff, ff, ff, ff, ff, ff, ff, ff, ff, ff, tt, tt, tt, tt, tt, tt, tt, tt, tt, tt, tt, tt, tt, tt, tt, tt, tt, tt, tt, tt, tt, tt, tt, tt, tt, tt, tt, tt, tt, tt, tt, tt, tt, tt, tt, tt, tt, tt, tt, tt, tt, tt, tt, tt, tt, tt, tt, tt, tt, tt, tt, tt, tt, tt, tt, tt, tt, tt, tt, tt, tt, tt, tt, tt, tt, tt, tt, tt, tt, tt, tt, tt, tt, tt, tt, tt, tt, tt, tt, tt, tt, tt, tt, tt, tt, tt, tt, tt, tt, tt, tt, tt, tt, tt, tt, tt, tt, tt, tt, tt, tt, tt, tt, tt, tt, tt, tt, tt, tt, tt, tt, tt, tt, tt, tt, tt, tt, tt, tt, tt, tt, tt, tt, tt, tt, tt, tt, tt, tt, tt, tt, tt, tt, tt, tt, tt, tt, tt, tt, ff, ff, ff, ff, ff, ff, ff, ff, ff, ff, ff, ff, ff, ff, ff, ff, ff, ff, ff, ff, ff, ff, ff, ff, ff, ff, ff, ff, ff, ff, ff, ff, ff, ff, ff, ff, ff, ff, ff, ff, ff, ff, ff, ff, ff, ff, ff, ff, ff, ff, ff, ff, ff, ff, ff, ff, ff, ff, ff, ff, ff, ff, ff, ff, ff, ff, ff, ff, ff, ff, ff, ff, ff, ff, ff, ff, ff, ff, ff, ff, ff, ff, ff, ff, ff, ff, ff, ff, ff, ff, ff, ff, ff, ff, ff, ff, ff, ff, ff, ff, ff, ff, ff, ff, ff, ff, ff, ff, ff, ff, ff, ff, ff, ff, ff, ff, ff, ff, ff, ff, ff, ff, ff, ff, ff, ff, ff, ff, ff, ff, ff, ff, ff, ff, ff, ff, ff, ff, ff, ff, ff, ff, ff, ff, ff, ff, ff, ff, ff, ff, ff, ff, ff, ff, ff, ff, ff, ff, ff, ff, ff, ff, ff, ff, ff, ff, ff, ff, ff, ff, ff, ff, ff, ff, ff, ff, ff, ff, ff, ff, ff, ff, ff, ff] (fun f_ wc => ∃ (kq : Nat) (x277_84 : Bool), (f_ 277) = .bool x277_84 ∧ Aside0 (laws_FnRatesChanged.j5 kq l1 t339 t340 t341 t344 t352 t360 t361 x194_3 t373 t374 x26_80 (t344.length : Int) x194_3 x277_84 = some r) ∧ Aside0 (kq ≤ kj80) ∧ Aside0 (Kd.R (Kd.int .i64) 3 wc w.heap.size (fun k_ => some k_ ≠ ((.slice Ao63 t344.length co63) : Value).ownBlock ∧ some k_ ≠ (v354 : Value).ownBlock ∧ some k_ ≠ (v362 : Value).ownBlock) (.slice Ao14 t339.length co14) t339) ∧ Aside0 (Kd.R (Kd.int .i64) 3 wc w.heap.size (fun k_ => some k_ ≠ ((.slice Ao14 t339.length co14) : Value).ownBlock ∧ some k_ ≠ (v354 : Value).ownBlock ∧ some k_ ≠ (v362 : Value).ownBlock) (.slice Ao63 t344.length co63) t344) ∧ Aside0 (Kd.R (Kd.int .i64) 3 wc w.heap.size (fun k_ => some k_ ≠ ((.slice Ao14 t339.length co14) : Value).ownBlock ∧ some k_ ≠ ((.slice Ao63 t344.length co63) : Value).ownBlock ∧ some k_ ≠ (v362 : Value).ownBlock) v354 t352) ∧ Aside0 (Kd.R (Kd.int .i64) 3 wc w.heap.size (fun k_ => some k_ ≠ ((.slice Ao14 t339.length co14) : Value).ownBlock ∧ some k_ ≠ ((.slice Ao63 t344.length co63) : Value).ownBlock ∧ some k_ ≠ (v354 : Value).ownBlock) v362 t360) ∧ Aside0 (Below w.heap.size w wc)) ?first_j5 ?rest_j5
                  case first_j5 => as_aux_lemma =>
                   intro J_ K_ hJ_j5 hK_
                   have H := HC85.out
                   clear HC85
                   by_cases c86 : 0 ≤ x194_3
                   ·rw [if_pos c86] at H
                    have c86b0 : decide (0 ≤ x194_3) = true := decide_eq_true c86
                    clear c86
                    (first | rw [c86b0] | (simp only [i64_w, i32_w]; rw [c86b0]) | skip)
                    by_cases c87 : x194_3 < (t352.length : Int)
                    ·rw [if_pos c87] at H
                     have c87b0 : decide (x194_3 < (t352.length : Int)) = true := decide_eq_true c87
                     clear c87
                     by_cases c88 : 0 ≤ t373
                     ·rw [if_pos c88] at H
                      have c88b0 : decide (0 ≤ t373) = true := decide_eq_true c88
                      clear c88
                      by_cases c89 : t373 < (t339.length : Int)
                      ·rw [if_pos c89] at H
                       have c89b0 : decide (t373 < (t339.length : Int)) = true := decide_eq_true c89
                       clear c89
                       by_cases c90 : (rd t352 x194_3) = (rd t339 t373)
                       ·rw [if_pos c90] at H
                        have c90b0 : ((rd t352 x194_3) == (rd t339 t373)) = true := beq_iff_eq.mpr c90
                        have c90b1 : ((rd t352 x194_3) != (rd t339 t373)) = false := bne_eq_false_iff_eq.mpr c90
                        clear c90
                        have H' := Aside0.mk H
                        clear H
                        obtain ⟨Ao91, co91, eo91⟩ := Kd.R_slice HO_12.out
                        subst eo91
                        have p380 : 0 ≤ (x194_3 : Int) := of_decide_eq_true (by first | (with_reducible assumption) | assumption)
                        have q380 : x194_3 < (t352.length : Int) := of_decide_eq_true (by first | (with_reducible assumption) | assumption)
                        obtain ⟨ad380, e380, hx380_0⟩ := Kd.at_int (Kd.R_reads' HO_12.out).2.2 x194_3 p380 q380
                        cases e380
                        replace p380 := eq_true p380
                        replace q380 := eq_true q380
                        have p381 : 0 ≤ (t373 : Int) := of_decide_eq_true (by first | (with_reducible assumption) | assumption)
                        have q381 : t373 < (t339.length : Int) := of_decide_eq_true (by first | (with_reducible assumption) | assumption)
                        obtain ⟨ad381, e381, hx381_0⟩ := Kd.at_int (Kd.R_reads' HO_5.out).2.2 t373 p381 q381
                        cases e381
                        replace p381 := eq_true p381
                        replace q381 := eq_true q381
                        go_wp2
                        repeat (go_quiet (fail); try go_wp2)
                        refine meetF hJ_j5 (by kernel_rfl) (by kernel_rfl) ?rel_z92
                        case rel_z92 => (try simp only [List.getD_cons_succ, List.getD_cons_zero]); exact ⟨_, (false), (by first | rfl | (simp; done) | (simp [*]; done)), H', ⟨by have := HJ11.out; have := HJ49.out; have := HK3.out; have := HJ65.out; have := HJ80.out; first | omega | exact Nat.le_refl _⟩, ⟨by (with_reducible repeat (first | apply Kd.R_alloc | apply Kd.R_drewN | apply Kd.R_drew)); exact HO_5.out⟩, ⟨by (with_reducible repeat (first | apply Kd.R_alloc | apply Kd.R_drewN | apply Kd.R_drew)); exact HO_8.out⟩, ⟨by (with_reducible repeat (first | apply Kd.R_alloc | apply Kd.R_drewN | apply Kd.R_drew)); exact HO_12.out⟩, ⟨by (with_reducible repeat (first | apply Kd.R_alloc | apply Kd.R_drewN | apply Kd.R_drew)); exact HO_16.out⟩, ⟨by repeat (first | (with_reducible first | exact HB.out | apply below_alloc | apply pw_below_drewN | apply below_drew1) | exact HB.out)⟩⟩
                       ·rw [if_neg c90] at H
                        have c90b0 : ((rd t352 x194_3) == (rd t339 t373)) = false := beq_eq_false_iff_ne.mpr c90
                        have c90b1 : ((rd t352 x194_3) != (rd t339 t373)) = true := bne_iff_ne.mpr c90
                        by_cases c93 : 0 ≤ x26_80
                        ·rw [if_pos c93] at H
                         have c93b0 : decide (0 ≤ x26_80) = true := decide_eq_true c93
                         clear c93
                         by_cases c94 : x26_80 < (t339.length : Int)
                         ·rw [if_pos c94] at H
                          have c94b0 : decide (x26_80 < (t339.length : Int)) = true := decide_eq_true c94
                          clear c94
                          have H' := Aside0.mk H
                          clear H
                          obtain ⟨Ao95, co95, eo95⟩ := Kd.R_slice HO_12.out
                          subst eo95
                          have p380 : 0 ≤ (x194_3 : Int) := of_decide_eq_true (by first | (with_reducible assumption) | assumption)
                          have q380 : x194_3 < (t352.length : Int) := of_decide_eq_true (by first | (with_reducible assumption) | assumption)
                          obtain ⟨ad380, e380, hx380_0⟩ := Kd.at_int (Kd.R_reads' HO_12.out).2.2 x194_3 p380 q380
                          cases e380
                          replace p380 := eq_true p380
                          replace q380 := eq_true q380
                          have p381 : 0 ≤ (t373 : Int) := of_decide_eq_true (by first | (with_reducible assumption) | assumption)
                          have q381 : t373 < (t339.length : Int) := of_decide_eq_true (by first | (with_reducible assumption) | assumption)
                          obtain ⟨ad381, e381, hx381_0⟩ := Kd.at_int (Kd.R_reads' HO_5.out).2.2 t373 p381 q381
                          cases e381
                          replace p381 := eq_true p381
                          replace q381 := eq_true q381
                          have p382 : 0 ≤ (x194_3 : Int) := of_decide_eq_true (by first | (with_reducible assumption) | assumption)
                          have q382 : x194_3 < (t352.length : Int) := of_decide_eq_true (by first | (with_reducible assumption) | assumption)
                          obtain ⟨ad382, e382, hx382_0⟩ := Kd.at_int (Kd.R_reads' HO_12.out).2.2 x194_3 p382 q382
                          obtain rfl : ad380 = ad382 := (by injection e382)
                          replace p382 := eq_true p382
                          replace q382 := eq_true q382
                          have p383 : 0 ≤ (x26_80 : Int) := of_decide_eq_true (by first | (with_reducible assumption) | assumption)
                          have q383 : x26_80 < (t339.length : Int) := of_decide_eq_true (by first | (with_reducible assumption) | assumption)
                          obtain ⟨ad383, e383, hx383_0⟩ := Kd.at_int (Kd.R_reads' HO_5.out).2.2 x26_80 p383 q383
                          obtain rfl : ad381 = ad383 := (by injection e383)
                          replace p383 := eq_true p383
                          replace q383 := eq_true q383
                          go_wp2
                          repeat (go_quiet (fail); try go_wp2)
                          refine meetF hJ_j5 (by kernel_rfl) (by kernel_rfl) ?rel_z96
                          case rel_z96 => (try simp only [List.getD_cons_succ, List.getD_cons_zero]); exact ⟨_, (((rd t352 x194_3) != (rd t339 x26_80))), (by first | rfl | (simp; done) | (simp [*]; done)), H', ⟨by have := HJ11.out; have := HJ49.out; have := HK3.out; have := HJ65.out; have := HJ80.out; first | omega | exact Nat.le_refl _⟩, ⟨by (with_reducible repeat (first | apply Kd.R_alloc | apply Kd.R_drewN | apply Kd.R_drew)); exact HO_5.out⟩, ⟨by (with_reducible repeat (first | apply Kd.R_alloc | apply Kd.R_drewN | apply Kd.R_drew)); exact HO_8.out⟩, ⟨by (with_reducible repeat (first | apply Kd.R_alloc | apply Kd.R_drewN | apply Kd.R_drew)); exact HO_12.out⟩, ⟨by (with_reducible repeat (first | apply Kd.R_alloc | apply Kd.R_drewN | apply Kd.R_drew)); exact HO_16.out⟩, ⟨by repeat (first | (with_reducible first | exact HB.out | apply below_alloc | apply pw_below_drewN | apply below_drew1) | exact HB.out)⟩⟩
                         ·rw [if_neg c94] at H
                          exact absurd H (by simp)
                        ·rw [if_neg c93] at H
                         exact absurd H (by simp)
                      ·rw [if_neg c89] at H
                       exact absurd H (by simp)
                     ·rw [if_neg c88] at H
                      exact absurd H (by simp)
                    ·rw [if_neg c87] at H
                     exact absurd H (by simp)
                   ·rw [if_neg c86] at H
                    exact absurd H (by simp)
                  case rest_j5 => as_aux_lemma =>
                   intro f_ wc hcut
                   dsimp only [ov]
                   generalize f_ 277 = v277 at hcut ⊢
                   clear HC85
                   try clear c1
                   try clear c2
                   try clear p2
                   try clear c3
                   try clear p3
                   try clear q3
                   try clear hx3
                   try clear c4
                   try clear c5
                   try clear c6
                   try clear p6
                   try clear c7
                   try clear c8
                   try clear c9
                   try clear c21
                   try clear c21b0
                   try clear c21b1
                   try clear c21b2
                   try clear c23
                   try clear c24
                   try clear c24b0
                   try clear c24b1
                   try clear c24b2
                   try clear c26
                   try clear c27
                   try clear c27b0
                   try clear c27b1
                   try clear c27b2
                   try clear c29
                   try clear c30
                   try clear c30b0
                   try clear c30b1
                   try clear c30b2
                   try clear c31
                   try clear p37
                   try clear q37
                   try clear hx37
                   try clear p38
                   try clear q38
                   try clear hx38
                   try clear c46
                   try clear c48
                   try clear c51
                   try clear c52
                   try clear c52b0
                   try clear c52b1
                   try clear c53
                   try clear c53b0
                   try clear c53b1
                   try clear c54
                   try clear c62
                   try clear c64
                   try clear c64b0
                   try clear p64
                   try clear c67
                   try clear c68
                   try clear c68b0
                   try clear c69
                   try clear c69b0
                   try clear c69b1
                   try clear c70
                   try clear c70b0
                   try clear c71
                   try clear c71b0
                   try clear c72
                   try clear c72b0
                   try clear c73
                   try clear c73b0
                   try clear c74
                   try clear c74b0
                   try clear c74b1
                   try clear c75
                   try clear c75b0
                   try clear c75b1
                   try clear c76
                   try clear c76b0
                   try clear c80
                   try clear c82
                   try clear c82b0
                   try clear c86
                   try clear c86b0
                   try clear c87
                   try clear c87b0
                   try clear c88
                   try clear c88b0
                   try clear c89
                   try clear c89b0
                   try clear c90
                   try clear c90b0
                   try clear c90b1
                   try clear c93
                   try clear c93b0
                   try clear c94
                   try clear c94b0
                   try clear hx376_0
                   try clear hx377_0
                   try clear hx378_0
                   try clear hx379_0
                   try clear hx380_0
                   try clear hx381_0
                   try clear hx382_0
                   try clear hx383_0
                   try clear p2
                   try clear p3
                   try clear p37
                   try clear p376
                   try clear p377
                   try clear p378
                   try clear p379
                   try clear p380
                   try clear p381
                   try clear p382
                   try clear p383
                   try clear p6
                   try clear p64
                   try clear q3
                   try clear q37
                   try clear q376
                   try clear q377
                   try clear q378
                   try clear q379
                   try clear q380
                   try clear q381
                   try clear q382
                   try clear q383
                   obtain ⟨kq, x277_84, rfl, HA, HJ84, HO_5, HO_8, HO_12, HO_16, HB⟩ := hcut
                   cases kq with
                   | zero => exact absurd HA.out (by simp [laws_FnRatesChanged.j5])
                   | succ kj84 =>
                    have H := HA.out
                    clear HA
                    simp only [laws_FnRatesChanged.j5] at H
                    by_cases c97 : x277_84 = true
                    ·subst c97
                     have H1 : (some false) = some r := by rw [if_pos rfl] at H; exact H
                     clear H
                     have H := H1
                     clear H1
                     obtain rfl := Option.some.inj H
                     exact absurd HT.out (by simp)
                    ·replace c97 := Bool.eq_false_iff.mpr c97
                     subst c97
                     have H1 : (if t361 = true then (if 0 ≤ t373 then (if t373 < (t339.length : Int) then (if 0 ≤ x26_80 then (if x26_80 < (t339.length : Int) then (if t374 = 0 then (if 0 ≤ x194_3 then (if x194_3 < (t360.length : Int) then (if (rd t360 x194_3) = (wrap64 (t340 * (rd t339 t373))) then (if (rd t360 x194_3) < (wrap64 (t340 * (rd t339 t373))) then (if (rd t360 x194_3) < (wrap64 (t340 * (rd t339 x26_80))) then (some false) else (if (rd t360 x194_3) > (wrap64 (t340 * (rd t339 t373))) then (if (rd t360 x194_3) > (wrap64 (t340 * (rd t339 x26_80))) then (some false) else (laws_FnRatesChanged.l0 kj84 l1 t339 t340 t341 t344 t352 t360 t361 (t344.length : Int) (wrap64 (x194_3 + 1)))) else (laws_FnRatesChanged.l0 kj84 l1 t339 t340 t341 t344 t352 t360 t361 (t344.length : Int) (wrap64 (x194_3 + 1))))) else (if (rd t360 x194_3) > (wrap64 (t340 * (rd t339 t373))) then (if (rd t360 x194_3) > (wrap64 (t340 * (rd t339 x26_80))) then (some false) else (laws_FnRatesChanged.l0 kj84 l1 t339 t340 t341 t344 t352 t360 t361 (t344.length : Int) (wrap64 (x194_3 + 1)))) else (laws_FnRatesChanged.l0 kj84 l1 t339 t340 t341 t344 t352 t360 t361 (t344.length : Int) (wrap64 (x194_3 + 1))))) else (some false)) else (none)) else (none)) else (if 0 ≤ x194_3 then (if x194_3 < (t360.length : Int) then (if (rd t360 x194_3) < (wrap64 (t340 * (rd t339 t373))) then (if (rd t360 x194_3) < (wrap64 (t340 * (rd t339 x26_80))) then (some false) else (if (rd t360 x194_3) > (wrap64 (t340 * (rd t339 t373))) then (if (rd t360 x194_3) > (wrap64 (t340 * (rd t339 x26_80))) then (some false) else (laws_FnRatesChanged.l0 kj84 l1 t339 t340 t341 t344 t352 t360 t361 (t344.length : Int) (wrap64 (x194_3 + 1)))) else (laws_FnRatesChanged.l0 kj84 l1 t339 t340 t341 t344 t352 t360 t361 (t344.length : Int) (wrap64 (x194_3 + 1))))) else (if (rd t360 x194_3) > (wrap64 (t340 * (rd t339 t373))) then (if (rd t360 x194_3) > (wrap64 (t340 * (rd t339 x26_80))) then (some false) else (laws_FnRatesChanged.l0 kj84 l1 t339 t340 t341 t344 t352 t360 t361 (t344.length : Int) (wrap64 (x194_3 + 1)))) else (laws_FnRatesChanged.l0 kj84 l1 t339 t340 t341 t344 t352 t360 t361 (t344.length : Int) (wrap64 (x194_3 + 1))))) else (none)) else (none))) else (none)) else (none)) else (none)) else (none)) else (laws_FnRatesChanged.l0 kj84 l1 t339 t340 t341 t344 t352 t360 t361 (t344.length : Int) (wrap64 (x194_3 + 1)))) = some r := by rw [if_neg (show ¬ (false = true) by decide)] at H; exact H
                     clear H
                     have H := H1
                     clear H1
                     by_cases c98 : t361 = true
                     ·subst c98
                      have H1 : (if 0 ≤ t373 then (if t373 < (t339.length : Int) then (if 0 ≤ x26_80 then (if x26_80 < (t339.length : Int) then (if t374 = 0 then (if 0 ≤ x194_3 then (if x194_3 < (t360.length : Int) then (if (rd t360 x194_3) = (wrap64 (t340 * (rd t339 t373))) then (if (rd t360 x194_3) < (wrap64 (t340 * (rd t339 t373))) then (if (rd t360 x194_3) < (wrap64 (t340 * (rd t339 x26_80))) then (some false) else (if (rd t360 x194_3) > (wrap64 (t340 * (rd t339 t373))) then (if (rd t360 x194_3) > (wrap64 (t340 * (rd t339 x26_80))) then (some false) else (laws_FnRatesChanged.l0 kj84 l1 t339 t340 t341 t344 t352 t360 true (t344.length : Int) (wrap64 (x194_3 + 1)))) else (laws_FnRatesChanged.l0 kj84 l1 t339 t340 t341 t344 t352 t360 true (t344.length : Int) (wrap64 (x194_3 + 1))))) else (if (rd t360 x194_3) > (wrap64 (t340 * (rd t339 t373))) then (if (rd t360 x194_3) > (wrap64 (t340 * (rd t339 x26_80))) then (some false) else (laws_FnRatesChanged.l0 kj84 l1 t339 t340 t341 t344 t352 t360 true (t344.length : Int) (wrap64 (x194_3 + 1)))) else (laws_FnRatesChanged.l0 kj84 l1 t339 t340 t341 t344 t352 t360 true (t344.length : Int) (wrap64 (x194_3 + 1))))) else (some false)) else (none)) else (none)) else (if 0 ≤ x194_3 then (if x194_3 < (t360.length : Int) then (if (rd t360 x194_3) < (wrap64 (t340 * (rd t339 t373))) then (if (rd t360 x194_3) < (wrap64 (t340 * (rd t339 x26_80))) then (some false) else (if (rd t360 x194_3) > (wrap64 (t340 * (rd t339 t373))) then (if (rd t360 x194_3) > (wrap64 (t340 * (rd t339 x26_80))) then (some false) else (laws_FnRatesChanged.l0 kj84 l1 t339 t340 t341 t344 t352 t360 true (t344.length : Int) (wrap64 (x194_3 + 1)))) else (laws_FnRatesChanged.l0 kj84 l1 t339 t340 t341 t344 t352 t360 true (t344.length : Int) (wrap64 (x194_3 + 1))))) else (if (rd t360 x194_3) > (wrap64 (t340 * (rd t339 t373))) then (if (rd t360 x194_3) > (wrap64 (t340 * (rd t339 x26_80))) then (some false) else (laws_FnRatesChanged.l0 kj84 l1 t339 t340 t341 t344 t352 t360 true (t344.length : Int) (wrap64 (x194_3 + 1)))) else (laws_FnRatesChanged.l0 kj84 l1 t339 t340 t341 t344 t352 t360 true (t344.length : Int) (wrap64 (x194_3 + 1))))) else (none)) else (none))) else (none)) else (none)) else (none)) else (none)) = some r := by rw [if_pos rfl] at H; exact H
                      clear H
                      have H := H1
                      clear H1
                      by_cases c99 : 0 ≤ t373
                      ·rw [if_pos c99] at H
                       have c99b0 : decide (0 ≤ t373) = true := decide_eq_true c99
                       clear c99
                       by_cases c100 : t373 < (t339.length : Int)
                       ·rw [if_pos c100] at H
                        have c100b0 : decide (t373 < (t339.length : Int)) = true := decide_eq_true c100
                        clear c100
                        by_cases c101 : 0 ≤ x26_80
                        ·rw [if_pos c101] at H
                         have c101b0 : decide (0 ≤ x26_80) = true := decide_eq_true c101
                         clear c101
                         by_cases c102 : x26_80 < (t339.length : Int)
                         ·rw [if_pos c102] at H
                          have c102b0 : decide (x26_80 < (t339.length : Int)) = true := decide_eq_true c102
                          clear c102
                          by_cases c103 : t374 = 0
                          ·rw [if_pos c103] at H
                           have c103b0 : (t374 == 0) = true := beq_iff_eq.mpr c103
                           have c103b1 : (t374 != 0) = false := bne_eq_false_iff_eq.mpr c103
                           clear c103
                           by_cases c104 : 0 ≤ x194_3
                           ·rw [if_pos c104] at H
                            have c104b0 : decide (0 ≤ x194_3) = true := decide_eq_true c104
                            clear c104
                            by_cases c105 : x194_3 < (t360.length : Int)
                            ·rw [if_pos c105] at H
                             have c105b0 : decide (x194_3 < (t360.length : Int)) = true := decide_eq_true c105
                             clear c105
                             by_cases c106 : (rd t360 x194_3) = (wrap64 (t340 * (rd t339 t373)))
                             ·rw [if_pos c106] at H
                              have c106b0 : ((rd t360 x194_3) == (wrap64 (t340 * (rd t339 t373)))) = true := beq_iff_eq.mpr c106
                              have c106b1 : ((rd t360 x194_3) != (wrap64 (t340 * (rd t339 t373)))) = false := bne_eq_false_iff_eq.mpr c106
                              clear c106
                              by_cases c107 : (rd t360 x194_3) < (wrap64 (t340 * (rd t339 t373)))
                              ·rw [if_pos c107] at H
                               have c107b0 : decide ((rd t360 x194_3) < (wrap64 (t340 * (rd t339 t373)))) = true := decide_eq_true c107
                               clear c107
                               by_cases c108 : (rd t360 x194_3) < (wrap64 (t340 * (rd t339 x26_80)))
                               ·rw [if_pos c108] at H
                                have c108b0 : decide ((rd t360 x194_3) < (wrap64 (t340 * (rd t339 x26_80)))) = true := decide_eq_true c108
                                clear c108
                                obtain rfl := Option.some.inj H
                                exact absurd HT.out (by simp)
                               ·rw [if_neg c108] at H
                                have c108b0 : decide ((rd t360 x194_3) < (wrap64 (t340 * (rd t339 x26_80)))) = false := decide_eq_false c108
                                clear c108
                                by_cases c109 : (rd t360 x194_3) > (wrap64 (t340 * (rd t339 t373)))
                                ·rw [if_pos c109] at H
                                 have c109b0 : decide ((wrap64 (t340 * (rd t339 t373))) < (rd t360 x194_3)) = true := decide_eq_true c109
                                 clear c109
                                 by_cases c110 : (rd t360 x194_3) > (wrap64 (t340 * (rd t339 x26_80)))
                                 ·rw [if_pos c110] at H
                                  have c110b0 : decide ((wrap64 (t340 * (rd t339 x26_80))) < (rd t360 x194_3)) = true := decide_eq_true c110
                                  clear c110
                                  obtain rfl := Option.some.inj H
                                  exact absurd HT.out (by simp)
                                 ·rw [if_neg c110] at H
                                  have c110b0 : decide ((wrap64 (t340 * (rd t339 x26_80))) < (rd t360 x194_3)) = false := decide_eq_false c110
                                  clear c110
                                  have H' := Aside0.mk H
                                  clear H
                                  have p384 : 0 ≤ (t373 : Int) := of_decide_eq_true (by first | (with_reducible assumption) | assumption)
                                  have q384 : t373 < (t339.length : Int) := of_decide_eq_true (by first | (with_reducible assumption) | assumption)
                                  obtain ⟨ad384, e384, hx384_0⟩ := Kd.at_int (Kd.R_reads' HO_5.out).2.2 t373 p384 q384
                                  cases e384
                                  replace p384 := eq_true p384
                                  replace q384 := eq_true q384
                                  have p385 : 0 ≤ (x26_80 : Int) := of_decide_eq_true (by first | (with_reducible assumption) | assumption)
                                  have q385 : x26_80 < (t339.length : Int) := of_decide_eq_true (by first | (with_reducible assumption) | assumption)
                                  obtain ⟨ad385, e385, hx385_0⟩ := Kd.at_int (Kd.R_reads' HO_5.out).2.2 x26_80 p385 q385
                                  obtain rfl : ad384 = ad385 := (by injection e385)
                                  replace p385 := eq_true p385
                                  replace q385 := eq_true q385
                                  obtain ⟨Ao111, co111, eo111⟩ := Kd.R_slice HO_16.out
                                  subst eo111
                                  have p386 : 0 ≤ (x194_3 : Int) := of_decide_eq_true (by first | (with_reducible assumption) | assumption)
                                  have q386 : x194_3 < (t360.length : Int) := of_decide_eq_true (by first | (with_reducible assumption) | assumption)
                                  obtain ⟨ad386, e386, hx386_0⟩ := Kd.at_int (Kd.R_reads' HO_16.out).2.2 x194_3 p386 q386
                                  cases e386
                                  replace p386 := eq_true p386
                                  replace q386 := eq_true q386
                                  have p387 : 0 ≤ (x194_3 : Int) := of_decide_eq_true (by first | (with_reducible assumption) | assumption)
                                  have q387 : x194_3 < (t360.length : Int) := of_decide_eq_true (by first | (with_reducible assumption) | assumption)
                                  obtain ⟨ad387, e387, hx387_0⟩ := Kd.at_int (Kd.R_reads' HO_16.out).2.2 x194_3 p387 q387
                                  obtain rfl : ad386 = ad387 := (by injection e387)
                                  replace p387 := eq_true p387
                                  replace q387 := eq_true q387
                                  have p388 : 0 ≤ (x194_3 : Int) := of_decide_eq_true (by first | (with_reducible assumption) | assumption)
                                  have q388 : x194_3 < (t360.length : Int) := of_decide_eq_true (by first | (with_reducible assumption) | assumption)
                                  obtain ⟨ad388, e388, hx388_0⟩ := Kd.at_int (Kd.R_reads' HO_16.out).2.2 x194_3 p388 q388
                                  obtain rfl : ad386 = ad388 := (by injection e388)
                                  replace p388 := eq_true p388
                                  replace q388 := eq_true q388
                                  have p389 : 0 ≤ (x194_3 : Int) := of_decide_eq_true (by first | (with_reducible assumption) | assumption)
                                  have q389 : x194_3 < (t360.length : Int) := of_decide_eq_true (by first | (with_reducible assumption) | assumption)
                                  obtain ⟨ad389, e389, hx389_0⟩ := Kd.at_int (Kd.R_reads' HO_16.out).2.2 x194_3 p389 q389
                                  obtain rfl : ad386 = ad389 := (by injection e389)
                                  replace p389 := eq_true p389
                                  replace q389 := eq_true q389
                                  have p390 : 0 ≤ (x194_3 : Int) := of_decide_eq_true (by first | (with_reducible assumption) | assumption)
                                  have q390 : x194_3 < (t360.length : Int) := of_decide_eq_true (by first | (with_reducible assumption) | assumption)
                                  obtain ⟨ad390, e390, hx390_0⟩ := Kd.at_int (Kd.R_reads' HO_16.out).2.2 x194_3 p390 q390
                                  obtain rfl : ad386 = ad390 := (by injection e390)
                                  replace p390 := eq_true p390
                                  replace q390 := eq_true q390
                                  go_wp2
                                  repeat (go_quiet (fail); try go_wp2)
                                  refine handF kj84 ?measure_z112 hL_l0 (by kernel_rfl) (by kernel_rfl) ?rel_z112
                                  case measure_z112 => have := HJ11.out; have := HJ49.out; have := HK3.out; have := HJ65.out; have := HJ80.out; have := HJ84.out; omega
                                  case rel_z112 => (try simp only [List.getD_cons_succ, List.getD_cons_zero]); exact ⟨(wrap64 (x194_3 + 1)), (by first | rfl | (simp; done) | (simp [*]; done)), H', ⟨by have := HJ11.out; have := HJ49.out; have := HK3.out; have := HJ65.out; have := HJ80.out; have := HJ84.out; omega⟩, ⟨by (with_reducible repeat (first | apply Kd.R_alloc | apply Kd.R_drewN | apply Kd.R_drew)); exact HO_5.out⟩, ⟨by (with_reducible repeat (first | apply Kd.R_alloc | apply Kd.R_drewN | apply Kd.R_drew)); exact HO_8.out⟩, ⟨by (with_reducible repeat (first | apply Kd.R_alloc | apply Kd.R_drewN | apply Kd.R_drew)); exact HO_12.out⟩, ⟨by (with_reducible repeat (first | apply Kd.R_alloc | apply Kd.R_drewN | apply Kd.R_drew)); exact HO_16.out⟩, ⟨by repeat (first | (with_reducible first | exact HB.out | apply below_alloc | apply pw_below_drewN | apply below_drew1) | exact HB.out)⟩⟩
                                ·rw [if_neg c109] at H
                                 have c109b0 : decide ((wrap64 (t340 * (rd t339 t373))) < (rd t360 x194_3)) = false := decide_eq_false c109
                                 clear c109
                                 have H' := Aside0.mk H
                                 clear H
                                 have p384 : 0 ≤ (t373 : Int) := of_decide_eq_true (by first | (with_reducible assumption) | assumption)
                                 have q384 : t373 < (t339.length : Int) := of_decide_eq_true (by first | (with_reducible assumption) | assumption)
                                 obtain ⟨ad384, e384, hx384_0⟩ := Kd.at_int (Kd.R_reads' HO_5.out).2.2 t373 p384 q384
                                 cases e384
                                 replace p384 := eq_true p384
                                 replace q384 := eq_true q384
                                 have p385 : 0 ≤ (x26_80 : Int) := of_decide_eq_true (by first | (with_reducible assumption) | assumption)
                                 have q385 : x26_80 < (t339.length : Int) := of_decide_eq_true (by first | (with_reducible assumption) | assumption)
                                 obtain ⟨ad385, e385, hx385_0⟩ := Kd.at_int (Kd.R_reads' HO_5.out).2.2 x26_80 p385 q385
                                 obtain rfl : ad384 = ad385 := (by injection e385)
                                 replace p385 := eq_true p385
                                 replace q385 := eq_true q385
                                 obtain ⟨Ao113, co113, eo113⟩ := Kd.R_slice HO_16.out
                                 subst eo113
                                 have p386 : 0 ≤ (x194_3 : Int) := of_decide_eq_true (by first | (with_reducible assumption) | assumption)
                                 have q386 : x194_3 < (t360.length : Int) := of_decide_eq_true (by first | (with_reducible assumption) | assumption)
                                 obtain ⟨ad386, e386, hx386_0⟩ := Kd.at_int (Kd.R_reads' HO_16.out).2.2 x194_3 p386 q386
                                 cases e386
                                 replace p386 := eq_true p386
                                 replace q386 := eq_true q386
                                 have p387 : 0 ≤ (x194_3 : Int) := of_decide_eq_true (by first | (with_reducible assumption) | assumption)
                                 have q387 : x194_3 < (t360.length : Int) := of_decide_eq_true (by first | (with_reducible assumption) | assumption)
                                 obtain ⟨ad387, e387, hx387_0⟩ := Kd.at_int (Kd.R_reads' HO_16.out).2.2 x194_3 p387 q387
                                 obtain rfl : ad386 = ad387 := (by injection e387)
                                 replace p387 := eq_true p387
                                 replace q387 := eq_true q387
                                 have p388 : 0 ≤ (x194_3 : Int) := of_decide_eq_true (by first | (with_reducible assumption) | assumption)
                                 have q388 : x194_3 < (t360.length : Int) := of_decide_eq_true (by first | (with_reducible assumption) | assumption)
                                 obtain ⟨ad388, e388, hx388_0⟩ := Kd.at_int (Kd.R_reads' HO_16.out).2.2 x194_3 p388 q388
                                 obtain rfl : ad386 = ad388 := (by injection e388)
                                 replace p388 := eq_true p388
                                 replace q388 := eq_true q388
                                 have p389 : 0 ≤ (x194_3 : Int) := of_decide_eq_true (by first | (with_reducible assumption) | assumption)
                                 have q389 : x194_3 < (t360.length : Int) := of_decide_eq_true (by first | (with_reducible assumption) | assumption)
                                 obtain ⟨ad389, e389, hx389_0⟩ := Kd.at_int (Kd.R_reads' HO_16.out).2.2 x194_3 p389 q389
                                 obtain rfl : ad386 = ad389 := (by injection e389)
                                 replace p389 := eq_true p389
                                 replace q389 := eq_true q389
                                 go_wp2
                                 repeat (go_quiet (fail); try go_wp2)
                                 refine handF kj84 ?measure_z114 hL_l0 (by kernel_rfl) (by kernel_rfl) ?rel_z114
                                 case measure_z114 => have := HJ11.out; have := HJ49.out; have := HK3.out; have := HJ65.out; have := HJ80.out; have := HJ84.out; omega
                                 case rel_z114 => (try simp only [List.getD_cons_succ, List.getD_cons_zero]); exact ⟨(wrap64 (x194_3 + 1)), (by first | rfl | (simp; done) | (simp [*]; done)), H', ⟨by have := HJ11.out; have := HJ49.out; have := HK3.out; have := HJ65.out; have := HJ80.out; have := HJ84.out; omega⟩, ⟨by (with_reducible repeat (first | apply Kd.R_alloc | apply Kd.R_drewN | apply Kd.R_drew)); exact HO_5.out⟩, ⟨by (with_reducible repeat (first | apply Kd.R_alloc | apply Kd.R_drewN | apply Kd.R_drew)); exact HO_8.out⟩, ⟨by (with_reducible repeat (first | apply Kd.R_alloc | apply Kd.R_drewN | apply Kd.R_drew)); exact HO_12.out⟩, ⟨by (with_reducible repeat (first | apply Kd.R_alloc | apply Kd.R_drewN | apply Kd.R_drew)); exact HO_16.out⟩, ⟨by repeat (first | (with_reducible first | exact HB.out | apply below_alloc | apply pw_below_drewN | apply below_drew1) | exact HB.out)⟩⟩
                              ·rw [if_neg c107] at H
                               have c107b0 : decide ((rd t360 x194_3) < (wrap64 (t340 * (rd t339 t373)))) = false := decide_eq_false c107
                               clear c107
                               by_cases c115 : (rd t360 x194_3) > (wrap64 (t340 * (rd t339 t373)))
                               ·rw [if_pos c115] at H
                                have c115b0 : decide ((wrap64 (t340 * (rd t339 t373))) < (rd t360 x194_3)) = true := decide_eq_true c115
                                clear c115
                                by_cases c116 : (rd t360 x194_3) > (wrap64 (t340 * (rd t339 x26_80)))
                                ·rw [if_pos c116] at H
                                 have c116b0 : decide ((wrap64 (t340 * (rd t339 x26_80))) < (rd t360 x194_3)) = true := decide_eq_true c116
                                 clear c116
                                 obtain rfl := Option.some.inj H
                                 exact absurd HT.out (by simp)
                                ·rw [if_neg c116] at H
                                 have c116b0 : decide ((wrap64 (t340 * (rd t339 x26_80))) < (rd t360 x194_3)) = false := decide_eq_false c116
                                 clear c116
                                 have H' := Aside0.mk H
                                 clear H
                                 have p384 : 0 ≤ (t373 : Int) := of_decide_eq_true (by first | (with_reducible assumption) | assumption)
                                 have q384 : t373 < (t339.length : Int) := of_decide_eq_true (by first | (with_reducible assumption) | assumption)
                                 obtain ⟨ad384, e384, hx384_0⟩ := Kd.at_int (Kd.R_reads' HO_5.out).2.2 t373 p384 q384
                                 cases e384
                                 replace p384 := eq_true p384
                                 replace q384 := eq_true q384
                                 have p385 : 0 ≤ (x26_80 : Int) := of_decide_eq_true (by first | (with_reducible assumption) | assumption)
                                 have q385 : x26_80 < (t339.length : Int) := of_decide_eq_true (by first | (with_reducible assumption) | assumption)
                                 obtain ⟨ad385, e385, hx385_0⟩ := Kd.at_int (Kd.R_reads' HO_5.out).2.2 x26_80 p385 q385
                                 obtain rfl : ad384 = ad385 := (by injection e385)
                                 replace p385 := eq_true p385
                                 replace q385 := eq_true q385
                                 obtain ⟨Ao117, co117, eo117⟩ := Kd.R_slice HO_16.out
                                 subst eo117
                                 have p386 : 0 ≤ (x194_3 : Int) := of_decide_eq_true (by first | (with_reducible assumption) | assumption)
                                 have q386 : x194_3 < (t360.length : Int) := of_decide_eq_true (by first | (with_reducible assumption) | assumption)
                                 obtain ⟨ad386, e386, hx386_0⟩ := Kd.at_int (Kd.R_reads' HO_16.out).2.2 x194_3 p386 q386
                                 cases e386
                                 replace p386 := eq_true p386
                                 replace q386 := eq_true q386
                                 have p387 : 0 ≤ (x194_3 : Int) := of_decide_eq_true (by first | (with_reducible assumption) | assumption)
                                 have q387 : x194_3 < (t360.length : Int) := of_decide_eq_true (by first | (with_reducible assumption) | assumption)
                                 obtain ⟨ad387, e387, hx387_0⟩ := Kd.at_int (Kd.R_reads' HO_16.out).2.2 x194_3 p387 q387
                                 obtain rfl : ad386 = ad387 := (by injection e387)
                                 replace p387 := eq_true p387
                                 replace q387 := eq_true q387
                                 have p391 : 0 ≤ (x194_3 : Int) := of_decide_eq_true (by first | (with_reducible assumption) | assumption)
                                 have q391 : x194_3 < (t360.length : Int) := of_decide_eq_true (by first | (with_reducible assumption) | assumption)
                                 obtain ⟨ad391, e391, hx391_0⟩ := Kd.at_int (Kd.R_reads' HO_16.out).2.2 x194_3 p391 q391
                                 obtain rfl : ad386 = ad391 := (by injection e391)
                                 replace p391 := eq_true p391
                                 replace q391 := eq_true q391
                                 have p392 : 0 ≤ (x194_3 : Int) := of_decide_eq_true (by first | (with_reducible assumption) | assumption)
                                 have q392 : x194_3 < (t360.length : Int) := of_decide_eq_true (by first | (with_reducible assumption) | assumption)
                                 obtain ⟨ad392, e392, hx392_0⟩ := Kd.at_int (Kd.R_reads' HO_16.out).2.2 x194_3 p392 q392
                                 obtain rfl : ad386 = ad392 := (by injection e392)
                                 replace p392 := eq_true p392
                                 replace q392 := eq_true q392
                                 go_wp2
                                 repeat (go_quiet (fail); try go_wp2)
                                 refine handF kj84 ?measure_z118 hL_l0 (by kernel_rfl) (by kernel_rfl) ?rel_z118
                                 case measure_z118 => have := HJ11.out; have := HJ49.out; have := HK3.out; have := HJ65.out; have := HJ80.out; have := HJ84.out; omega
                                 case rel_z118 => (try simp only [List.getD_cons_succ, List.getD_cons_zero]); exact ⟨(wrap64 (x194_3 + 1)), (by first | rfl | (simp; done) | (simp [*]; done)), H', ⟨by have := HJ11.out; have := HJ49.out; have := HK3.out; have := HJ65.out; have := HJ80.out; have := HJ84.out; omega⟩, ⟨by (with_reducible repeat (first | apply Kd.R_alloc | apply Kd.R_drewN | apply Kd.R_drew)); exact HO_5.out⟩, ⟨by (with_reducible repeat (first | apply Kd.R_alloc | apply Kd.R_drewN | apply Kd.R_drew)); exact HO_8.out⟩, ⟨by (with_reducible repeat (first | apply Kd.R_alloc | apply Kd.R_drewN | apply Kd.R_drew)); exact HO_12.out⟩, ⟨by (with_reducible repeat (first | apply Kd.R_alloc | apply Kd.R_drewN | apply Kd.R_drew)); exact HO_16.out⟩, ⟨by repeat (first | (with_reducible first | exact HB.out | apply below_alloc | apply pw_below_drewN | apply below_drew1) | exact HB.out)⟩⟩
                               ·rw [if_neg c115] at H
                                have c115b0 : decide ((wrap64 (t340 * (rd t339 t373))) < (rd t360 x194_3)) = false := decide_eq_false c115
                                clear c115
                                have H' := Aside0.mk H
                                clear H
                                have p384 : 0 ≤ (t373 : Int) := of_decide_eq_true (by first | (with_reducible assumption) | assumption)
                                have q384 : t373 < (t339.length : Int) := of_decide_eq_true (by first | (with_reducible assumption) | assumption)
                                obtain ⟨ad384, e384, hx384_0⟩ := Kd.at_int (Kd.R_reads' HO_5.out).2.2 t373 p384 q384
                                cases e384
                                replace p384 := eq_true p384
                                replace q384 := eq_true q384
                                have p385 : 0 ≤ (x26_80 : Int) := of_decide_eq_true (by first | (with_reducible assumption) | assumption)
                                have q385 : x26_80 < (t339.length : Int) := of_decide_eq_true (by first | (with_reducible assumption) | assumption)
                                obtain ⟨ad385, e385, hx385_0⟩ := Kd.at_int (Kd.R_reads' HO_5.out).2.2 x26_80 p385 q385
                                obtain rfl : ad384 = ad385 := (by injection e385)
                                replace p385 := eq_true p385
                                replace q385 := eq_true q385
                                obtain ⟨Ao119, co119, eo119⟩ := Kd.R_slice HO_16.out
                                subst eo119
                                have p386 : 0 ≤ (x194_3 : Int) := of_decide_eq_true (by first | (with_reducible assumption) | assumption)
                                have q386 : x194_3 < (t360.length : Int) := of_decide_eq_true (by first | (with_reducible assumption) | assumption)
                                obtain ⟨ad386, e386, hx386_0⟩ := Kd.at_int (Kd.R_reads' HO_16.out).2.2 x194_3 p386 q386
                                cases e386
                                replace p386 := eq_true p386
                                replace q386 := eq_true q386
                                have p387 : 0 ≤ (x194_3 : Int) := of_decide_eq_true (by first | (with_reducible assumption) | assumption)
                                have q387 : x194_3 < (t360.length : Int) := of_decide_eq_true (by first | (with_reducible assumption) | assumption)
                                obtain ⟨ad387, e387, hx387_0⟩ := Kd.at_int (Kd.R_reads' HO_16.out).2.2 x194_3 p387 q387
                                obtain rfl : ad386 = ad387 := (by injection e387)
                                replace p387 := eq_true p387
                                replace q387 := eq_true q387
                                have p391 : 0 ≤ (x194_3 : Int) := of_decide_eq_true (by first | (with_reducible assumption) | assumption)
                                have q391 : x194_3 < (t360.length : Int) := of_decide_eq_true (by first | (with_reducible assumption) | assumption)
                                obtain ⟨ad391, e391, hx391_0⟩ := Kd.at_int (Kd.R_reads' HO_16.out).2.2 x194_3 p391 q391
                                obtain rfl : ad386 = ad391 := (by injection e391)
                                replace p391 := eq_true p391
                                replace q391 := eq_true q391
                                go_wp2
                                repeat (go_quiet (fail); try go_wp2)
                                refine handF kj84 ?measure_z120 hL_l0 (by kernel_rfl) (by kernel_rfl) ?rel_z120
                                case measure_z120 => have := HJ11.out; have := HJ49.out; have := HK3.out; have := HJ65.out; have := HJ80.out; have := HJ84.out; omega
                                case rel_z120 => (try simp only [List.getD_cons_succ, List.getD_cons_zero]); exact ⟨(wrap64 (x194_3 + 1)), (by first | rfl | (simp; done) | (simp [*]; done)), H', ⟨by have := HJ11.out; have := HJ49.out; have := HK3.out; have := HJ65.out; have := HJ80.out; have := HJ84.out; omega⟩, ⟨by (with_reducible repeat (first | apply Kd.R_alloc | apply Kd.R_drewN | apply Kd.R_drew)); exact HO_5.out⟩, ⟨by (with_reducible repeat (first | apply Kd.R_alloc | apply Kd.R_drewN | apply Kd.R_drew)); exact HO_8.out⟩, ⟨by (with_reducible repeat (first | apply Kd.R_alloc | apply Kd.R_drewN | apply Kd.R_drew)); exact HO_12.out⟩, ⟨by (with_reducible repeat (first | apply Kd.R_alloc | apply Kd.R_drewN | apply Kd.R_drew)); exact HO_16.out⟩, ⟨by repeat (first | (with_reducible first | exact HB.out | apply below_alloc | apply pw_below_drewN | apply below_drew1) | exact HB.out)⟩⟩
                             ·rw [if_neg c106] at H
                              have c106b0 : ((rd t360 x194_3) == (wrap64 (t340 * (rd t339 t373)))) = false := beq_eq_false_iff_ne.mpr c106
                              have c106b1 : ((rd t360 x194_3) != (wrap64 (t340 * (rd t339 t373)))) = true := bne_iff_ne.mpr c106
                              obtain rfl := Option.some.inj H
                              exact absurd HT.out (by simp)
                            ·rw [if_neg c105] at H
                             exact absurd H (by simp)
                           ·rw [if_neg c104] at H
                            exact absurd H (by simp)
                          ·rw [if_neg c103] at H
                           have c103b0 : (t374 == 0) = false := beq_eq_false_iff_ne.mpr c103
                           have c103b1 : (t374 != 0) = true := bne_iff_ne.mpr c103
                           by_cases c121 : 0 ≤ x194_3
                           ·rw [if_pos c121] at H
                            have c121b0 : decide (0 ≤ x194_3) = true := decide_eq_true c121
                            clear c121
                            by_cases c122 : x194_3 < (t360.length : Int)
                            ·rw [if_pos c122] at H
                             have c122b0 : decide (x194_3 < (t360.length : Int)) = true := decide_eq_true c122
                             clear c122
                             by_cases c123 : (rd t360 x194_3) < (wrap64 (t340 * (rd t339 t373)))
                             ·rw [if_pos c123] at H
                              have c123b0 : decide ((rd t360 x194_3) < (wrap64 (t340 * (rd t339 t373)))) = true := decide_eq_true c123
                              clear c123
                              by_cases c124 : (rd t360 x194_3) < (wrap64 (t340 * (rd t339 x26_80)))
                              ·rw [if_pos c124] at H
                               have c124b0 : decide ((rd t360 x194_3) < (wrap64 (t340 * (rd t339 x26_80)))) = true := decide_eq_true c124
                               clear c124
                               obtain rfl := Option.some.inj H
                               exact absurd HT.out (by simp)
                              ·rw [if_neg c124] at H
                               have c124b0 : decide ((rd t360 x194_3) < (wrap64 (t340 * (rd t339 x26_80)))) = false := decide_eq_false c124
                               clear c124
                               by_cases c125 : (rd t360 x194_3) > (wrap64 (t340 * (rd t339 t373)))
                               ·rw [if_pos c125] at H
                                have c125b0 : decide ((wrap64 (t340 * (rd t339 t373))) < (rd t360 x194_3)) = true := decide_eq_true c125
                                clear c125
                                by_cases c126 : (rd t360 x194_3) > (wrap64 (t340 * (rd t339 x26_80)))
                                ·rw [if_pos c126] at H
                                 have c126b0 : decide ((wrap64 (t340 * (rd t339 x26_80))) < (rd t360 x194_3)) = true := decide_eq_true c126
                                 clear c126
                                 obtain rfl := Option.some.inj H
                                 exact absurd HT.out (by simp)
                                ·rw [if_neg c126] at H
                                 have c126b0 : decide ((wrap64 (t340 * (rd t339 x26_80))) < (rd t360 x194_3)) = false := decide_eq_false c126
                                 clear c126
                                 have H' := Aside0.mk H
                                 clear H
                                 have p384 : 0 ≤ (t373 : Int) := of_decide_eq_true (by first | (with_reducible assumption) | assumption)
                                 have q384 : t373 < (t339.length : Int) := of_decide_eq_true (by first | (with_reducible assumption) | assumption)
                                 obtain ⟨ad384, e384, hx384_0⟩ := Kd.at_int (Kd.R_reads' HO_5.out).2.2 t373 p384 q384
                                 cases e384
                                 replace p384 := eq_true p384
                                 replace q384 := eq_true q384
                                 have p385 : 0 ≤ (x26_80 : Int) := of_decide_eq_true (by first | (with_reducible assumption) | assumption)
                                 have q385 : x26_80 < (t339.length : Int) := of_decide_eq_true (by first | (with_reducible assumption) | assumption)
                                 obtain ⟨ad385, e385, hx385_0⟩ := Kd.at_int (Kd.R_reads' HO_5.out).2.2 x26_80 p385 q385
                                 obtain rfl : ad384 = ad385 := (by injection e385)
                                 replace p385 := eq_true p385
                                 replace q385 := eq_true q385
                                 obtain ⟨Ao127, co127, eo127⟩ := Kd.R_slice HO_16.out
                                 subst eo127
                                 have p393 : 0 ≤ (x194_3 : Int) := of_decide_eq_true (by first | (with_reducible assumption) | assumption)
                                 have q393 : x194_3 < (t360.length : Int) := of_decide_eq_true (by first | (with_reducible assumption) | assumption)
                                 obtain ⟨ad393, e393, hx393_0⟩ := Kd.at_int (Kd.R_reads' HO_16.out).2.2 x194_3 p393 q393
                                 cases e393
                                 replace p393 := eq_true p393
                                 replace q393 := eq_true q393
                                 have p394 : 0 ≤ (x194_3 : Int) := of_decide_eq_true (by first | (with_reducible assumption) | assumption)
                                 have q394 : x194_3 < (t360.length : Int) := of_decide_eq_true (by first | (with_reducible assumption) | assumption)
                                 obtain ⟨ad394, e394, hx394_0⟩ := Kd.at_int (Kd.R_reads' HO_16.out).2.2 x194_3 p394 q394
                                 obtain rfl : ad393 = ad394 := (by injection e394)
                                 replace p394 := eq_true p394
                                 replace q394 := eq_true q394
                                 have p395 : 0 ≤ (x194_3 : Int) := of_decide_eq_true (by first | (with_reducible assumption) | assumption)
                                 have q395 : x194_3 < (t360.length : Int) := of_decide_eq_true (by first | (with_reducible assumption) | assumption)
                                 obtain ⟨ad395, e395, hx395_0⟩ := Kd.at_int (Kd.R_reads' HO_16.out).2.2 x194_3 p395 q395
                                 obtain rfl : ad393 = ad395 := (by injection e395)
                                 replace p395 := eq_true p395
                                 replace q395 := eq_true q395
                                 have p396 : 0 ≤ (x194_3 : Int) := of_decide_eq_true (by first | (with_reducible assumption) | assumption)
                                 have q396 : x194_3 < (t360.length : Int) := of_decide_eq_true (by first | (with_reducible assumption) | assumption)
                                 obtain ⟨ad396, e396, hx396_0⟩ := Kd.at_int (Kd.R_reads' HO_16.out).2.2 x194_3 p396 q396
                                 obtain rfl : ad393 = ad396 := (by injection e396)
                                 replace p396 := eq_true p396
                                 replace q396 := eq_true q396
                                 go_wp2
                                 repeat (go_quiet (fail); try go_wp2)
                                 refine handF kj84 ?measure_z128 hL_l0 (by kernel_rfl) (by kernel_rfl) ?rel_z128
                                 case measure_z128 => have := HJ11.out; have := HJ49.out; have := HK3.out; have := HJ65.out; have := HJ80.out; have := HJ84.out; omega
                                 case rel_z128 => (try simp only [List.getD_cons_succ, List.getD_cons_zero]); exact ⟨(wrap64 (x194_3 + 1)), (by first | rfl | (simp; done) | (simp [*]; done)), H', ⟨by have := HJ11.out; have := HJ49.out; have := HK3.out; have := HJ65.out; have := HJ80.out; have := HJ84.out; omega⟩, ⟨by (with_reducible repeat (first | apply Kd.R_alloc | apply Kd.R_drewN | apply Kd.R_drew)); exact HO_5.out⟩, ⟨by (with_reducible repeat (first | apply Kd.R_alloc | apply Kd.R_drewN | apply Kd.R_drew)); exact HO_8.out⟩, ⟨by (with_reducible repeat (first | apply Kd.R_alloc | apply Kd.R_drewN | apply Kd.R_drew)); exact HO_12.out⟩, ⟨by (with_reducible repeat (first | apply Kd.R_alloc | apply Kd.R_drewN | apply Kd.R_drew)); exact HO_16.out⟩, ⟨by repeat (first | (with_reducible first | exact HB.out | apply below_alloc | apply pw_below_drewN | apply below_drew1) | exact HB.out)⟩⟩
                               ·rw [if_neg c125] at H
                                have c125b0 : decide ((wrap64 (t340 * (rd t339 t373))) < (rd t360 x194_3)) = false := decide_eq_false c125
                                clear c125
                                have H' := Aside0.mk H
                                clear H
                                have p384 : 0 ≤ (t373 : Int) := of_decide_eq_true (by first | (with_reducible assumption) | assumption)
                                have q384 : t373 < (t339.length : Int) := of_decide_eq_true (by first | (with_reducible assumption) | assumption)
                                obtain ⟨ad384, e384, hx384_0⟩ := Kd.at_int (Kd.R_reads' HO_5.out).2.2 t373 p384 q384
                                cases e384
                                replace p384 := eq_true p384
                                replace q384 := eq_true q384
                                have p385 : 0 ≤ (x26_80 : Int) := of_decide_eq_true (by first | (with_reducible assumption) | assumption)
                                have q385 : x26_80 < (t339.length : Int) := of_decide_eq_true (by first | (with_reducible assumption) | assumption)
                                obtain ⟨ad385, e385, hx385_0⟩ := Kd.at_int (Kd.R_reads' HO_5.out).2.2 x26_80 p385 q385
                                obtain rfl : ad384 = ad385 := (by injection e385)
                                replace p385 := eq_true p385
                                replace q385 := eq_true q385
                                obtain ⟨Ao129, co129, eo129⟩ := Kd.R_slice HO_16.out
                                subst eo129
                                have p393 : 0 ≤ (x194_3 : Int) := of_decide_eq_true (by first | (with_reducible assumption) | assumption)
                                have q393 : x194_3 < (t360.length : Int) := of_decide_eq_true (by first | (with_reducible assumption) | assumption)
                                obtain ⟨ad393, e393, hx393_0⟩ := Kd.at_int (Kd.R_reads' HO_16.out).2.2 x194_3 p393 q393
                                cases e393
                                replace p393 := eq_true p393
                                replace q393 := eq_true q393
                                have p394 : 0 ≤ (x194_3 : Int) := of_decide_eq_true (by first | (with_reducible assumption) | assumption)
                                have q394 : x194_3 < (t360.length : Int) := of_decide_eq_true (by first | (with_reducible assumption) | assumption)
                                obtain ⟨ad394, e394, hx394_0⟩ := Kd.at_int (Kd.R_reads' HO_16.out).2.2 x194_3 p394 q394
                                obtain rfl : ad393 = ad394 := (by injection e394)
                                replace p394 := eq_true p394
                                replace q394 := eq_true q394
                                have p395 : 0 ≤ (x194_3 : Int) := of_decide_eq_true (by first | (with_reducible assumption) | assumption)
                                have q395 : x194_3 < (t360.length : Int) := of_decide_eq_true (by first | (with_reducible assumption) | assumption)
                                obtain ⟨ad395, e395, hx395_0⟩ := Kd.at_int (Kd.R_reads' HO_16.out).2.2 x194_3 p395 q395
                                obtain rfl : ad393 = ad395 := (by injection e395)
                                replace p395 := eq_true p395
                                replace q395 := eq_true q395
                                go_wp2
                                repeat (go_quiet (fail); try go_wp2)
                                refine handF kj84 ?measure_z130 hL_l0 (by kernel_rfl) (by kernel_rfl) ?rel_z130
                                case measure_z130 => have := HJ11.out; have := HJ49.out; have := HK3.out; have := HJ65.out; have := HJ80.out; have := HJ84.out; omega
                                case rel_z130 => (try simp only [List.getD_cons_succ, List.getD_cons_zero]); exact ⟨(wrap64 (x194_3 + 1)), (by first | rfl | (simp; done) | (simp [*]; done)), H', ⟨by have := HJ11.out; have := HJ49.out; have := HK3.out; have := HJ65.out; have := HJ80.out; have := HJ84.out; omega⟩, ⟨by (with_reducible repeat (first | apply Kd.R_alloc | apply Kd.R_drewN | apply Kd.R_drew)); exact HO_5.out⟩, ⟨by (with_reducible repeat (first | apply Kd.R_alloc | apply Kd.R_drewN | apply Kd.R_drew)); exact HO_8.out⟩, ⟨by (with_reducible repeat (first | apply Kd.R_alloc | apply Kd.R_drewN | apply Kd.R_drew)); exact HO_12.out⟩, ⟨by (with_reducible repeat (first | apply Kd.R_alloc | apply Kd.R_drewN | apply Kd.R_drew)); exact HO_16.out⟩, ⟨by repeat (first | (with_reducible first | exact HB.out | apply below_alloc | apply pw_below_drewN | apply below_drew1) | exact HB.out)⟩⟩
                             ·rw [if_neg c123] at H
                              have c123b0 : decide ((rd t360 x194_3) < (wrap64 (t340 * (rd t339 t373)))) = false := decide_eq_false c123
                              clear c123
                              by_cases c131 : (rd t360 x194_3) > (wrap64 (t340 * (rd t339 t373)))
                              ·rw [if_pos c131] at H
                               have c131b0 : decide ((wrap64 (t340 * (rd t339 t373))) < (rd t360 x194_3)) = true := decide_eq_true c131
                               clear c131
                               by_cases c132 : (rd t360 x194_3) > (wrap64 (t340 * (rd t339 x26_80)))
                               ·rw [if_pos c132] at H
                                have c132b0 : decide ((wrap64 (t340 * (rd t339 x26_80))) < (rd t360 x194_3)) = true := decide_eq_true c132
                                clear c132
                                obtain rfl := Option.some.inj H
                                exact absurd HT.out (by simp)
                               ·rw [if_neg c132] at H
                                have c132b0 : decide ((wrap64 (t340 * (rd t339 x26_80))) < (rd t360 x194_3)) = false := decide_eq_false c132
                                clear c132
                                have H' := Aside0.mk H
                                clear H
                                have p384 : 0 ≤ (t373 : Int) := of_decide_eq_true (by first | (with_reducible assumption) | assumption)
                                have q384 : t373 < (t339.length : Int) := of_decide_eq_true (by first | (with_reducible assumption) | assumption)
                                obtain ⟨ad384, e384, hx384_0⟩ := Kd.at_int (Kd.R_reads' HO_5.out).2.2 t373 p384 q384
                                cases e384
                                replace p384 := eq_true p384
                                replace q384 := eq_true q384
                                have p385 : 0 ≤ (x26_80 : Int) := of_decide_eq_true (by first | (with_reducible assumption) | assumption)
                                have q385 : x26_80 < (t339.length : Int) := of_decide_eq_true (by first | (with_reducible assumption) | assumption)
                                obtain ⟨ad385, e385, hx385_0⟩ := Kd.at_int (Kd.R_reads' HO_5.out).2.2 x26_80 p385 q385
                                obtain rfl : ad384 = ad385 := (by injection e385)
                                replace p385 := eq_true p385
                                replace q385 := eq_true q385
                                obtain ⟨Ao133, co133, eo133⟩ := Kd.R_slice HO_16.out
                                subst eo133
                                have p393 : 0 ≤ (x194_3 : Int) := of_decide_eq_true (by first | (with_reducible assumption) | assumption)
                                have q393 : x194_3 < (t360.length : Int) := of_decide_eq_true (by first | (with_reducible assumption) | assumption)
                                obtain ⟨ad393, e393, hx393_0⟩ := Kd.at_int (Kd.R_reads' HO_16.out).2.2 x194_3 p393 q393
                                cases e393
                                replace p393 := eq_true p393
                                replace q393 := eq_true q393
                                have p397 : 0 ≤ (x194_3 : Int) := of_decide_eq_true (by first | (with_reducible assumption) | assumption)
                                have q397 : x194_3 < (t360.length : Int) := of_decide_eq_true (by first | (with_reducible assumption) | assumption)
                                obtain ⟨ad397, e397, hx397_0⟩ := Kd.at_int (Kd.R_reads' HO_16.out).2.2 x194_3 p397 q397
                                obtain rfl : ad393 = ad397 := (by injection e397)
                                replace p397 := eq_true p397
                                replace q397 := eq_true q397
                                have p398 : 0 ≤ (x194_3 : Int) := of_decide_eq_true (by first | (with_reducible assumption) | assumption)
                                have q398 : x194_3 < (t360.length : Int) := of_decide_eq_true (by first | (with_reducible assumption) | assumption)
                                obtain ⟨ad398, e398, hx398_0⟩ := Kd.at_int (Kd.R_reads' HO_16.out).2.2 x194_3 p398 q398
                                obtain rfl : ad393 = ad398 := (by injection e398)
                                replace p398 := eq_true p398
                                replace q398 := eq_true q398
                                go_wp2
                                repeat (go_quiet (fail); try go_wp2)
                                refine handF kj84 ?measure_z134 hL_l0 (by kernel_rfl) (by kernel_rfl) ?rel_z134
                                case measure_z134 => have := HJ11.out; have := HJ49.out; have := HK3.out; have := HJ65.out; have := HJ80.out; have := HJ84.out; omega
                                case rel_z134 => (try simp only [List.getD_cons_succ, List.getD_cons_zero]); exact ⟨(wrap64 (x194_3 + 1)), (by first | rfl | (simp; done) | (simp [*]; done)), H', ⟨by have := HJ11.out; have := HJ49.out; have := HK3.out; have := HJ65.out; have := HJ80.out; have := HJ84.out; omega⟩, ⟨by (with_reducible repeat (first | apply Kd.R_alloc | apply Kd.R_drewN | apply Kd.R_drew)); exact HO_5.out⟩, ⟨by (with_reducible repeat (first | apply Kd.R_alloc | apply Kd.R_drewN | apply Kd.R_drew)); exact HO_8.out⟩, ⟨by (with_reducible repeat (first | apply Kd.R_alloc | apply Kd.R_drewN | apply Kd.R_drew)); exact HO_12.out⟩, ⟨by (with_reducible repeat (first | apply Kd.R_alloc | apply Kd.R_drewN | apply Kd.R_drew)); exact HO_16.out⟩, ⟨by repeat (first | (with_reducible first | exact HB.out | apply below_alloc | apply pw_below_drewN | apply below_drew1) | exact HB.out)⟩⟩
                              ·rw [if_neg c131] at H
                               have c131b0 : decide ((wrap64 (t340 * (rd t339 t373))) < (rd t360 x194_3)) = false := decide_eq_false c131
                               clear c131
                               have H' := Aside0.mk H
                               clear H
                               have p384 : 0 ≤ (t373 : Int) := of_decide_eq_true (by first | (with_reducible assumption) | assumption)
                               have q384 : t373 < (t339.length : Int) := of_decide_eq_true (by first | (with_reducible assumption) | assumption)
                               obtain ⟨ad384, e384, hx384_0⟩ := Kd.at_int (Kd.R_reads' HO_5.out).2.2 t373 p384 q384
                               cases e384
                               replace p384 := eq_true p384
                               replace q384 := eq_true q384
                               have p385 : 0 ≤ (x26_80 : Int) := of_decide_eq_true (by first | (with_reducible assumption) | assumption)
                               have q385 : x26_80 < (t339.length : Int) := of_decide_eq_true (by first | (with_reducible assumption) | assumption)
                               obtain ⟨ad385, e385, hx385_0⟩ := Kd.at_int (Kd.R_reads' HO_5.out).2.2 x26_80 p385 q385
                               obtain rfl : ad384 = ad385 := (by injection e385)
                               replace p385 := eq_true p385
                               replace q385 := eq_true q385
                               obtain ⟨Ao135, co135, eo135⟩ := Kd.R_slice HO_16.out
                               subst eo135
                               have p393 : 0 ≤ (x194_3 : Int) := of_decide_eq_true (by first | (with_reducible assumption) | assumption)
                               have q393 : x194_3 < (t360.length : Int) := of_decide_eq_true (by first | (with_reducible assumption) | assumption)
                               obtain ⟨ad393, e393, hx393_0⟩ := Kd.at_int (Kd.R_reads' HO_16.out).2.2 x194_3 p393 q393
                               cases e393
                               replace p393 := eq_true p393
                               replace q393 := eq_true q393
                               have p397 : 0 ≤ (x194_3 : Int) := of_decide_eq_true (by first | (with_reducible assumption) | assumption)
                               have q397 : x194_3 < (t360.length : Int) := of_decide_eq_true (by first | (with_reducible assumption) | assumption)
                               obtain ⟨ad397, e397, hx397_0⟩ := Kd.at_int (Kd.R_reads' HO_16.out).2.2 x194_3 p397 q397
                               obtain rfl : ad393 = ad397 := (by injection e397)
                               replace p397 := eq_true p397
                               replace q397 := eq_true q397
                               go_wp2
                               repeat (go_quiet (fail); try go_wp2)
                               refine handF kj84 ?measure_z136 hL_l0 (by kernel_rfl) (by kernel_rfl) ?rel_z136
                               case measure_z136 => have := HJ11.out; have := HJ49.out; have := HK3.out; have := HJ65.out; have := HJ80.out; have := HJ84.out; omega
                               case rel_z136 => (try simp only [List.getD_cons_succ, List.getD_cons_zero]); exact ⟨(wrap64 (x194_3 + 1)), (by first | rfl | (simp; done) | (simp [*]; done)), H', ⟨by have := HJ11.out; have := HJ49.out; have := HK3.out; have := HJ65.out; have := HJ80.out; have := HJ84.out; omega⟩, ⟨by (with_reducible repeat (first | apply Kd.R_alloc | apply Kd.R_drewN | apply Kd.R_drew)); exact HO_5.out⟩, ⟨by (with_reducible repeat (first | apply Kd.R_alloc | apply Kd.R_drewN | apply Kd.R_drew)); exact HO_8.out⟩, ⟨by (with_reducible repeat (first | apply Kd.R_alloc | apply Kd.R_drewN | apply Kd.R_drew)); exact HO_12.out⟩, ⟨by (with_reducible repeat (first | apply Kd.R_alloc | apply Kd.R_drewN | apply Kd.R_drew)); exact HO_16.out⟩, ⟨by repeat (first | (with_reducible first | exact HB.out | apply below_alloc | apply pw_below_drewN | apply below_drew1) | exact HB.out)⟩⟩
                            ·rw [if_neg c122] at H
                             exact absurd H (by simp)
                           ·rw [if_neg c121] at H
                            exact absurd H (by simp)
                         ·rw [if_neg c102] at H
                          exact absurd H (by simp)
                        ·rw [if_neg c101] at H
                         exact absurd H (by simp)
                       ·rw [if_neg c100] at H
                        exact absurd H (by simp)
                      ·rw [if_neg c99] at H
                       exact absurd H (by simp)
                     ·replace c98 := Bool.eq_false_iff.mpr c98
                      subst c98
                      have H1 : (laws_FnRatesChanged.l0 kj84 l1 t339 t340 t341 t344 t352 t360 false (t344.length : Int) (wrap64 (x194_3 + 1))) = some r := by rw [if_neg (show ¬ (false = true) by decide)] at H; exact H
                      clear H
                      have H := H1
                      clear H1
                      have H' := Aside0.mk H
                      clear H
                      go_wp2
                      refine handF kj84 ?measure_z137 hL_l0 (by kernel_rfl) (by kernel_rfl) ?rel_z137
                      case measure_z137 => have := HJ11.out; have := HJ49.out; have := HK3.out; have := HJ65.out; have := HJ80.out; have := HJ84.out; omega
                      case rel_z137 => (try simp only [List.getD_cons_succ, List.getD_cons_zero]); exact ⟨(wrap64 (x194_3 + 1)), (by first | rfl | (simp; done) | (simp [*]; done)), H', ⟨by have := HJ11.out; have := HJ49.out; have := HK3.out; have := HJ65.out; have := HJ80.out; have := HJ84.out; omega⟩, ⟨by (with_reducible repeat (first | apply Kd.R_alloc | apply Kd.R_drewN | apply Kd.R_drew)); exact HO_5.out⟩, ⟨by (with_reducible repeat (first | apply Kd.R_alloc | apply Kd.R_drewN | apply Kd.R_drew)); exact HO_8.out⟩, ⟨by (with_reducible repeat (first | apply Kd.R_alloc | apply Kd.R_drewN | apply Kd.R_drew)); exact HO_12.out⟩, ⟨by (with_reducible repeat (first | apply Kd.R_alloc | apply Kd.R_drewN | apply Kd.R_drew)); exact HO_16.out⟩, ⟨by repeat (first | (with_reducible first | exact HB.out | apply below_alloc | apply pw_below_drewN | apply below_drew1) | exact HB.out)⟩⟩
            ·rw [if_neg c64] at H
             have c64b0 : decide (x194_3 < (t344.length : Int)) = false := decide_eq_false c64
             clear c64
             replace H := Option.bind_eq_some_iff.mp H
             obtain ⟨⟨t399, t400, t401⟩, A1380, H⟩ := H
             replace H : ((impl_HoldSamples.f k3 t339 t399 t400).bind fun bt402 => (if t401 = true then (if bt402.2 = true then ((laws_iSame.f k3 bt402.1 t344).bind fun t406 => (if t406 = true then (laws_FnRatesChanged.j6 k3 l1) else (some false))) else (some false)) else (some false))) = some r := H
             have A138 := Aside0.mk A1380
             clear A1380
             replace H := Option.bind_eq_some_iff.mp H
             obtain ⟨⟨t402, t403⟩, A1390, H⟩ := H
             replace H : (if t401 = true then (if t403 = true then ((laws_iSame.f k3 t402 t344).bind fun t406 => (if t406 = true then (laws_FnRatesChanged.j6 k3 l1) else (some false))) else (some false)) else (some false)) = some r := H
             have A139 := Aside0.mk A1390
             clear A1390
             by_cases c140 : t401 = true
             ·subst c140
              have H1 : (if t403 = true then ((laws_iSame.f k3 t402 t344).bind fun t406 => (if t406 = true then (laws_FnRatesChanged.j6 k3 l1) else (some false))) else (some false)) = some r := by rw [if_pos rfl] at H; exact H
              clear H
              have H := H1
              clear H1
              by_cases c141 : t403 = true
              ·subst c141
               have H1 : ((laws_iSame.f k3 t402 t344).bind fun t406 => (if t406 = true then (laws_FnRatesChanged.j6 k3 l1) else (some false))) = some r := by rw [if_pos rfl] at H; exact H
               clear H
               have H := H1
               clear H1
               replace H := Option.bind_eq_some_iff.mp H
               obtain ⟨t406, A1420, H⟩ := H
               replace H : (if t406 = true then (laws_FnRatesChanged.j6 k3 l1) else (some false)) = some r := H
               have A142 := Aside0.mk A1420
               clear A1420
               by_cases c143 : t406 = true
               ·subst c143
                have H1 : (laws_FnRatesChanged.j6 k3 l1) = some r := by rw [if_pos rfl] at H; exact H
                clear H
                have H := H1
                clear H1
                have H' := Aside0.mk H
                clear H
                go_wp2_with (first | (go_at_call 17; (with_reducible refine (impl_LeastRatio.calls k3 t340 t341 t399 t400 true _ A138.out).mono ?_); rintro e w144 ⟨rfl, hb⟩; have n0_ := Aside0.mk (Kd.R_below (by (with_reducible repeat (first | apply Kd.R_alloc | apply Kd.R_drewN | apply Kd.R_drew)); exact HO_5.out) hb); have n1_ := Aside0.mk (Kd.R_below (by (with_reducible repeat (first | apply Kd.R_alloc | apply Kd.R_drewN | apply Kd.R_drew)); exact HO_8.out) hb); have n2_ := Aside0.mk (Kd.R_below (by (with_reducible repeat (first | apply Kd.R_alloc | apply Kd.R_drewN | apply Kd.R_drew)); exact HO_12.out) hb); have n3_ := Aside0.mk (Kd.R_below (by (with_reducible repeat (first | apply Kd.R_alloc | apply Kd.R_drewN | apply Kd.R_drew)); exact HO_16.out) hb); have n4_ := Aside0.mk (below_step (by repeat (first | (with_reducible first | exact HB.out | apply below_alloc | apply pw_below_drewN | apply below_drew1) | exact HB.out)) hb); clear HO_5; clear HO_8; clear HO_12; clear HO_16; clear HB; have HO_5 := n0_; have HO_8 := n1_; have HO_12 := n2_; have HO_16 := n3_; have HB := n4_; clear n0_ n1_ n2_ n3_ n4_; (try clear hb); (try clear hb2); (try clear hk); (try clear hi)) | (go_at_call 8; (with_reducible refine (impl_HoldSamples.calls k3 _ _ t339 t399 t400 t402 true _ ?side1 ?side2 A139.out).mono ?_); (case side1 => repeat (first | exact (Kd.R_reads' HO_5.out).2.2 | (with_reducible refine Kd.C_alloc ?_ _) | (with_reducible refine Kd.C_drewN ?_ _) | (with_reducible refine Kd.C_drew ?_))); (case side2 => exact (Kd.R_reads' HO_5.out).2.1); rintro e w145 ⟨v404, rfl, ho0, hb⟩; have n0_ := Aside0.mk (Kd.R_elder' (by (with_reducible repeat (first | apply Kd.R_alloc | apply Kd.R_drewN | apply Kd.R_drew)); exact HO_5.out) (Kd.R_base ho0) hb); have n1_ := Aside0.mk (Kd.R_elder' (by (with_reducible repeat (first | apply Kd.R_alloc | apply Kd.R_drewN | apply Kd.R_drew)); exact HO_8.out) (Kd.R_base ho0) hb); have n2_ := Aside0.mk (Kd.R_elder' (by (with_reducible repeat (first | apply Kd.R_alloc | apply Kd.R_drewN | apply Kd.R_drew)); exact HO_12.out) (Kd.R_base ho0) hb); have n3_ := Aside0.mk (Kd.R_elder' (by (with_reducible repeat (first | apply Kd.R_alloc | apply Kd.R_drewN | apply Kd.R_drew)); exact HO_16.out) (Kd.R_base ho0) hb); have n4_ := Aside0.mk (Kd.R_lower (Kd.R_new' (Kd.R_new' (Kd.R_new' (Kd.R_new' ho0 (Kd.R_lt (by (with_reducible repeat (first | apply Kd.R_alloc | apply Kd.R_drewN | apply Kd.R_drew)); exact HO_5.out))) (Kd.R_lt (by (with_reducible repeat (first | apply Kd.R_alloc | apply Kd.R_drewN | apply Kd.R_drew)); exact HO_8.out))) (Kd.R_lt (by (with_reducible repeat (first | apply Kd.R_alloc | apply Kd.R_drewN | apply Kd.R_drew)); exact HO_12.out))) (Kd.R_lt (by (with_reducible repeat (first | apply Kd.R_alloc | apply Kd.R_drewN | apply Kd.R_drew)); exact HO_16.out))) (below_size (by repeat (first | (with_reducible first | exact HB.out | apply below_alloc | apply pw_below_drewN | apply below_drew1) | exact HB.out)))); have n5_ := Aside0.mk (below_step (by repeat (first | (with_reducible first | exact HB.out | apply below_alloc | apply pw_below_drewN | apply below_drew1) | exact HB.out)) hb); clear HO_5; clear HO_8; clear HO_12; clear HO_16; clear HB; have HO_5 := n0_; have HO_8 := n1_; have HO_12 := n2_; have HO_16 := n3_; have HO405 := n4_; have HB := n5_; clear n0_ n1_ n2_ n3_ n4_ n5_; (try clear hb); (try clear hb2); (try clear hk); (try clear hi); (try clear ho0); obtain ⟨Ao146, co146, eo146⟩ := Kd.R_slice HO405.out; subst eo146) | (go_at_call 14; (with_reducible refine (laws_iSame.calls k3 _ _ t402 _ _ t344 true _ ?side1 ?side2 ?side3 ?side4 A142.out).mono ?_); (case side1 => repeat (first | exact (Kd.R_reads' HO405.out).2.2 | (with_reducible refine Kd.C_alloc ?_ _) | (with_reducible refine Kd.C_drewN ?_ _) | (with_reducible refine Kd.C_drew ?_))); (case side2 => exact (Kd.R_reads' HO405.out).2.1); (case side3 => repeat (first | exact (Kd.R_reads' HO_8.out).2.2 | (with_reducible refine Kd.C_alloc ?_ _) | (with_reducible refine Kd.C_drewN ?_ _) | (with_reducible refine Kd.C_drew ?_))); (case side4 => exact (Kd.R_reads' HO_8.out).2.1); rintro e w' ⟨rfl, ⟨nd, rfl⟩⟩; (try first | exact ⟨rfl, _, World.drewN_drewN _ _ _⟩ | exact ⟨rfl, _, Eq.trans (World.drewN_drewN _ _ _) (congrArg (World.drewN _) (Nat.add_assoc _ _ _))⟩)))
                refine meetF hJ_j6 (by kernel_rfl) (by kernel_rfl) ?rel_z147
                case rel_z147 => (try simp only [List.getD_cons_succ, List.getD_cons_zero]); exact ⟨_, H', ⟨by have := HJ11.out; have := HJ49.out; have := HK3.out; first | omega | exact Nat.le_refl _⟩, ⟨by repeat (first | (with_reducible first | exact HB.out | apply below_alloc | apply pw_below_drewN | apply below_drew1) | exact HB.out)⟩⟩
               ·replace c143 := Bool.eq_false_iff.mpr c143
                subst c143
                have H1 : (some false) = some r := by rw [if_neg (show ¬ (false = true) by decide)] at H; exact H
                clear H
                have H := H1
                clear H1
                obtain rfl := Option.some.inj H
                exact absurd HT.out (by simp)
              ·replace c141 := Bool.eq_false_iff.mpr c141
               subst c141
               have H1 : (some false) = some r := by rw [if_neg (show ¬ (false = true) by decide)] at H; exact H
               clear H
               have H := H1
               clear H1
               obtain rfl := Option.some.inj H
               exact absurd HT.out (by simp)
             ·replace c140 := Bool.eq_false_iff.mpr c140
              subst c140
              have H1 : (some false) = some r := by rw [if_neg (show ¬ (false = true) by decide)] at H; exact H
              clear H
              have H := H1
              clear H1
              obtain rfl := Option.some.inj H
              exact absurd HT.out (by simp)
      ·replace c48 := Bool.eq_false_iff.mpr c48
       subst c48
       have H1 : (laws_FnRatesChanged.j6 kj11 l1) = some r := by rw [if_neg (show ¬ (false = true) by decide)] at H; exact H
       clear H
       have H := H1
       clear H1
       have H' := Aside0.mk H
       clear H
       go_wp2
       refine meetF hJ_j6 (by kernel_rfl) (by kernel_rfl) ?rel_z148
       case rel_z148 => (try simp only [List.getD_cons_succ, List.getD_cons_zero]); exact ⟨_, H', ⟨by have := HJ11.out; first | omega | exact Nat.le_refl _⟩, ⟨by repeat (first | (with_reducible first | exact HB.out | apply below_alloc | apply pw_below_drewN | apply below_drew1) | exact HB.out)⟩⟩
     case rest_j6 => as_aux_lemma =>
      intro f_ wc hcut
      dsimp only [ov]
      clear HC47
      try clear c1
      try clear p2
      try clear p3
      try clear q3
      try clear hx3
      try clear c4
      try clear c6
      try clear p6
      try clear c9
      try clear c10
      try clear c11
      try clear c12
      try clear c13
      try clear c14
      try clear p38
      try clear q38
      try clear hx38
      try clear p39
      try clear q39
      try clear hx39
      try clear c48
      try clear c64
      try clear c64b0
      try clear p64
      try clear c98
      try clear c99
      try clear c99b0
      try clear c100
      try clear c100b0
      try clear c101
      try clear c101b0
      try clear c102
      try clear c102b0
      try clear c103
      try clear c103b0
      try clear c103b1
      try clear c104
      try clear c104b0
      try clear c105
      try clear c105b0
      try clear c106
      try clear c106b0
      try clear c106b1
      try clear c107
      try clear c107b0
      try clear c108
      try clear c108b0
      try clear c109
      try clear c109b0
      try clear c110
      try clear c110b0
      try clear c115
      try clear c115b0
      try clear c116
      try clear c116b0
      try clear c121
      try clear c121b0
      try clear c122
      try clear c122b0
      try clear c123
      try clear c123b0
      try clear c124
      try clear c124b0
      try clear c125
      try clear c125b0
      try clear c126
      try clear c126b0
      try clear c131
      try clear c131b0
      try clear c132
      try clear c132b0
      try clear c140
      try clear c141
      try clear c143
      try clear hx384_0
      try clear hx385_0
      try clear hx386_0
      try clear hx387_0
      try clear hx388_0
      try clear hx389_0
      try clear hx390_0
      try clear hx391_0
      try clear hx392_0
      try clear hx393_0
      try clear hx394_0
      try clear hx395_0
      try clear hx396_0
      try clear hx397_0
      try clear hx398_0
      try clear p384
      try clear p385
      try clear p386
      try clear p387
      try clear p388
      try clear p389
      try clear p390
      try clear p391
      try clear p392
      try clear p393
      try clear p394
      try clear p395
      try clear p396
      try clear p397
      try clear p398
      try clear q384
      try clear q385
      try clear q386
      try clear q387
      try clear q388
      try clear q389
      try clear q390
      try clear q391
      try clear q392
      try clear q393
      try clear q394
      try clear q395
      try clear q396
      try clear q397
      try clear q398
      obtain ⟨kq, HA, HJ46, HB⟩ := hcut
      cases kq with
      | zero => exact absurd HA.out (by simp [laws_FnRatesChanged.j6])
      | succ kj46 =>
       have H := HA.out
       clear HA
       simp only [laws_FnRatesChanged.j6] at H
       replace H := Option.bind_eq_some_iff.mp H
       obtain ⟨⟨t407, t408, t409⟩, A1490, H⟩ := H
       replace H : ((impl_LengthAfter.f t407 t408 t409).bind fun bt410 => ((spec_LengthAfter.f t407 t408 t409).bind fun bt412 => ((spec_DrawSourceOf.f l1).bind fun bt414 => ((impl_SourceOf.f bt414.1 bt414.2.1 bt414.2.2).bind fun bt417 => ((spec_SourceOf.f bt414.1 bt414.2.1 bt414.2.2).bind fun bt420 => ((spec_DrawLinesOfSame.f kj46 l1).bind fun bt423 => ((impl_LinesOfSame.f kj46 bt423.1 bt423.2).bind fun bt427 => ((spec_LinesOfSame.f kj46 bt423.1 bt423.2).bind fun bt431 => ((spec_DrawLeastRatio.f l1).bind fun bt435 => ((impl_LeastRatio.f kj46 bt435.1 bt435.2).bind fun bt437 => ((spec_LeastRatio.f kj46 bt435.1 bt435.2).bind fun bt440 => (if (bt410.2 != bt412.2) = true then (some false) else (if bt410.1 = bt412.1 then (if (bt417.2.2 != bt420.2.2) = true then (some false) else (if bt417.1 = bt420.1 then (if bt417.2.1 = bt420.2.1 then (if (bt427.2 != bt431.2) = true then (some false) else ((laws_iSame.f kj46 bt427.1 bt431.1).bind fun t443 => (if t443 = true then (if (bt437.2.2 != bt440.2.2) = true then (some false) else (if bt437.1 = bt440.1 then (if bt437.2.1 = bt440.2.1 then (if bt437.2.2 = true then (if (wrap64 (bt437.1 * bt435.2)) = (wrap64 (bt437.2.1 * bt435.1)) then ((laws_iCommon.f kj46 bt437.1 bt437.2.1).bind fun t444 => (laws_FnRatesChanged.j7 kj46 bt423.1 bt423.2 bt427.1 bt427.2 (t444 != 1))) else (some false)) else (laws_FnRatesChanged.j7 kj46 bt423.1 bt423.2 bt427.1 bt427.2 false)) else (some false)) else (some false))) else (some false)))) else (some false)) else (some false))) else (some false)))))))))))))) = some r := H
       have A149 := Aside0.mk A1490
       clear A1490
       replace H := Option.bind_eq_some_iff.mp H
       obtain ⟨⟨t410, t411⟩, A1500, H⟩ := H
       replace H : ((spec_LengthAfter.f t407 t408 t409).bind fun bt412 => ((spec_DrawSourceOf.f l1).bind fun bt414 => ((impl_SourceOf.f bt414.1 bt414.2.1 bt414.2.2).bind fun bt417 => ((spec_SourceOf.f bt414.1 bt414.2.1 bt414.2.2).bind fun bt420 => ((spec_DrawLinesOfSame.f kj46 l1).bind fun bt423 => ((impl_LinesOfSame.f kj46 bt423.1 bt423.2).bind fun bt427 => ((spec_LinesOfSame.f kj46 bt423.1 bt423.2).bind fun bt431 => ((spec_DrawLeastRatio.f l1).bind fun bt435 => ((impl_LeastRatio.f kj46 bt435.1 bt435.2).bind fun bt437 => ((spec_LeastRatio.f kj46 bt435.1 bt435.2).bind fun bt440 => (if (t411 != bt412.2) = true then (some false) else (if t410 = bt412.1 then (if (bt417.2.2 != bt420.2.2) = true then (some false) else (if bt417.1 = bt420.1 then (if bt417.2.1 = bt420.2.1 then (if (bt427.2 != bt431.2) = true then (some false) else ((laws_iSame.f kj46 bt427.1 bt431.1).bind fun t443 => (if t443 = true then (if (bt437.2.2 != bt440.2.2) = true then (some false) else (if bt437.1 = bt440.1 then (if bt437.2.1 = bt440.2.1 then (if bt437.2.2 = true then (if (wrap64 (bt437.1 * bt435.2)) = (wrap64 (bt437.2.1 * bt435.1)) then ((laws_iCommon.f kj46 bt437.1 bt437.2.1).bind fun t444 => (laws_FnRatesChanged.j7 kj46 bt423.1 bt423.2 bt427.1 bt427.2 (t444 != 1))) else (some false)) else (laws_FnRatesChanged.j7 kj46 bt423.1 bt423.2 bt427.1 bt427.2 false)) else (some false)) else (some false))) else (some false)))) else (some false)) else (some false))) else (some false))))))))))))) = some r := H
       have A150 := Aside0.mk A1500
       clear A1500
       replace H := Option.bind_eq_some_iff.mp H
       obtain ⟨⟨t412, t413⟩, A1510, H⟩ := H
       replace H : ((spec_DrawSourceOf.f l1).bind fun bt414 => ((impl_SourceOf.f bt414.1 bt414.2.1 bt414.2.2).bind fun bt417 => ((spec_SourceOf.f bt414.1 bt414.2.1 bt414.2.2).bind fun bt420 => ((spec_DrawLinesOfSame.f kj46 l1).bind fun bt423 => ((impl_LinesOfSame.f kj46 bt423.1 bt423.2).bind fun bt427 => ((spec_LinesOfSame.f kj46 bt423.1 bt423.2).bind fun bt431 => ((spec_DrawLeastRatio.f l1).bind fun bt435 => ((impl_LeastRatio.f kj46 bt435.1 bt435.2).bind fun bt437 => ((spec_LeastRatio.f kj46 bt435.1 bt435.2).bind fun bt440 => (if (t411 != t413) = true then (some false) else (if t410 = t412 then (if (bt417.2.2 != bt420.2.2) = true then (some false) else (if bt417.1 = bt420.1 then (if bt417.2.1 = bt420.2.1 then (if (bt427.2 != bt431.2) = true then (some false) else ((laws_iSame.f kj46 bt427.1 bt431.1).bind fun t443 => (if t443 = true then (if (bt437.2.2 != bt440.2.2) = true then (some false) else (if bt437.1 = bt440.1 then (if bt437.2.1 = bt440.2.1 then (if bt437.2.2 = true then (if (wrap64 (bt437.1 * bt435.2)) = (wrap64 (bt437.2.1 * bt435.1)) then ((laws_iCommon.f kj46 bt437.1 bt437.2.1).bind fun t444 => (laws_FnRatesChanged.j7 kj46 bt423.1 bt423.2 bt427.1 bt427.2 (t444 != 1))) else (some false)) else (laws_FnRatesChanged.j7 kj46 bt423.1 bt423.2 bt427.1 bt427.2 false)) else (some false)) else (some false))) else (some false)))) else (some false)) else (some false))) else (some false)))))))))))) = some r := H
       have A151 := Aside0.mk A1510
       clear A1510
       replace H := Option.bind_eq_some_iff.mp H
       obtain ⟨⟨t414, t415, t416⟩, A1520, H⟩ := H
       replace H : ((impl_SourceOf.f t414 t415 t416).bind fun bt417 => ((spec_SourceOf.f t414 t415 t416).bind fun bt420 => ((spec_DrawLinesOfSame.f kj46 l1).bind fun bt423 => ((impl_LinesOfSame.f kj46 bt423.1 bt423.2).bind fun bt427 => ((spec_LinesOfSame.f kj46 bt423.1 bt423.2).bind fun bt431 => ((spec_DrawLeastRatio.f l1).bind fun bt435 => ((impl_LeastRatio.f kj46 bt435.1 bt435.2).bind fun bt437 => ((spec_LeastRatio.f kj46 bt435.1 bt435.2).bind fun bt440 => (if (t411 != t413) = true then (some false) else (if t410 = t412 then (if (bt417.2.2 != bt420.2.2) = true then (some false) else (if bt417.1 = bt420.1 then (if bt417.2.1 = bt420.2.1 then (if (bt427.2 != bt431.2) = true then (some false) else ((laws_iSame.f kj46 bt427.1 bt431.1).bind fun t443 => (if t443 = true then (if (bt437.2.2 != bt440.2.2) = true then (some false) else (if bt437.1 = bt440.1 then (if bt437.2.1 = bt440.2.1 then (if bt437.2.2 = true then (if (wrap64 (bt437.1 * bt435.2)) = (wrap64 (bt437.2.1 * bt435.1)) then ((laws_iCommon.f kj46 bt437.1 bt437.2.1).bind fun t444 => (laws_FnRatesChanged.j7 kj46 bt423.1 bt423.2 bt427.1 bt427.2 (t444 != 1))) else (some false)) else (laws_FnRatesChanged.j7 kj46 bt423.1 bt423.2 bt427.1 bt427.2 false)) else (some false)) else (some false))) else (some false)))) else (some false)) else (some false))) else (some false))))))))))) = some r := H
       have A152 := Aside0.mk A1520
       clear A1520
       replace H := Option.bind_eq_some_iff.mp H
       obtain ⟨⟨t417, t418, t419⟩, A1530, H⟩ := H
       replace H : ((spec_SourceOf.f t414 t415 t416).bind fun bt420 => ((spec_DrawLinesOfSame.f kj46 l1).bind fun bt423 => ((impl_LinesOfSame.f kj46 bt423.1 bt423.2).bind fun bt427 => ((spec_LinesOfSame.f kj46 bt423.1 bt423.2).bind fun bt431 => ((spec_DrawLeastRatio.f l1).bind fun bt435 => ((impl_LeastRatio.f kj46 bt435.1 bt435.2).bind fun bt437 => ((spec_LeastRatio.f kj46 bt435.1 bt435.2).bind fun bt440 => (if (t411 != t413) = true then (some false) else (if t410 = t412 then (if (t419 != bt420.2.2) = true then (some false) else (if t417 = bt420.1 then (if t418 = bt420.2.1 then (if (bt427.2 != bt431.2) = true then (some false) else ((laws_iSame.f kj46 bt427.1 bt431.1).bind fun t443 => (if t443 = true then (if (bt437.2.2 != bt440.2.2) = true then (some false) else (if bt437.1 = bt440.1 then (if bt437.2.1 = bt440.2.1 then (if bt437.2.2 = true then (if (wrap64 (bt437.1 * bt435.2)) = (wrap64 (bt437.2.1 * bt435.1)) then ((laws_iCommon.f kj46 bt437.1 bt437.2.1).bind fun t444 => (laws_FnRatesChanged.j7 kj46 bt423.1 bt423.2 bt427.1 bt427.2 (t444 != 1))) else (some false)) else (laws_FnRatesChanged.j7 kj46 bt423.1 bt423.2 bt427.1 bt427.2 false)) else (some false)) else (some false))) else (some false)))) else (some false)) else (some false))) else (some false)))))))))) = some r := H
       have A153 := Aside0.mk A1530
       clear A1530
       replace H := Option.bind_eq_some_iff.mp H
       obtain ⟨⟨t420, t421, t422⟩, A1540, H⟩ := H
       replace H : ((spec_DrawLinesOfSame.f kj46 l1).bind fun bt423 => ((impl_LinesOfSame.f kj46 bt423.1 bt423.2).bind fun bt427 => ((spec_LinesOfSame.f kj46 bt423.1 bt423.2).bind fun bt431 => ((spec_DrawLeastRatio.f l1).bind fun bt435 => ((impl_LeastRatio.f kj46 bt435.1 bt435.2).bind fun bt437 => ((spec_LeastRatio.f kj46 bt435.1 bt435.2).bind fun bt440 => (if (t411 != t413) = true then (some false) else (if t410 = t412 then (if (t419 != t422) = true then (some false) else (if t417 = t420 then (if t418 = t421 then (if (bt427.2 != bt431.2) = true then (some false) else ((laws_iSame.f kj46 bt427.1 bt431.1).bind fun t443 => (if t443 = true then (if (bt437.2.2 != bt440.2.2) = true then (some false) else (if bt437.1 = bt440.1 then (if bt437.2.1 = bt440.2.1 then (if bt437.2.2 = true then (if (wrap64 (bt437.1 * bt435.2)) = (wrap64 (bt437.2.1 * bt435.1)) then ((laws_iCommon.f kj46 bt437.1 bt437.2.1).bind fun t444 => (laws_FnRatesChanged.j7 kj46 bt423.1 bt423.2 bt427.1 bt427.2 (t444 != 1))) else (some false)) else (laws_FnRatesChanged.j7 kj46 bt423.1 bt423.2 bt427.1 bt427.2 false)) else (some false)) else (some false))) else (some false)))) else (some false)) else (some false))) else (some false))))))))) = some r := H
       have A154 := Aside0.mk A1540
       clear A1540
       replace H := Option.bind_eq_some_iff.mp H
       obtain ⟨⟨t423, t424⟩, A1550, H⟩ := H
       replace H : ((impl_LinesOfSame.f kj46 t423 t424).bind fun bt427 => ((spec_LinesOfSame.f kj46 t423 t424).bind fun bt431 => ((spec_DrawLeastRatio.f l1).bind fun bt435 => ((impl_LeastRatio.f kj46 bt435.1 bt435.2).bind fun bt437 => ((spec_LeastRatio.f kj46 bt435.1 bt435.2).bind fun bt440 => (if (t411 != t413) = true then (some false) else (if t410 = t412 then (if (t419 != t422) = true then (some false) else (if t417 = t420 then (if t418 = t421 then (if (bt427.2 != bt431.2) = true then (some false) else ((laws_iSame.f kj46 bt427.1 bt431.1).bind fun t443 => (if t443 = true then (if (bt437.2.2 != bt440.2.2) = true then (some false) else (if bt437.1 = bt440.1 then (if bt437.2.1 = bt440.2.1 then (if bt437.2.2 = true then (if (wrap64 (bt437.1 * bt435.2)) = (wrap64 (bt437.2.1 * bt435.1)) then ((laws_iCommon.f kj46 bt437.1 bt437.2.1).bind fun t444 => (laws_FnRatesChanged.j7 kj46 t423 t424 bt427.1 bt427.2 (t444 != 1))) else (some false)) else (laws_FnRatesChanged.j7 kj46 t423 t424 bt427.1 bt427.2 false)) else (some false)) else (some false))) else (some false)))) else (some false)) else (some false))) else (some false)))))))) = some r := H
       have A155 := Aside0.mk A1550
       clear A1550
       replace H := Option.bind_eq_some_iff.mp H
       obtain ⟨⟨t427, t428⟩, A1560, H⟩ := H
       replace H : ((spec_LinesOfSame.f kj46 t423 t424).bind fun bt431 => ((spec_DrawLeastRatio.f l1).bind fun bt435 => ((impl_LeastRatio.f kj46 bt435.1 bt435.2).bind fun bt437 => ((spec_LeastRatio.f kj46 bt435.1 bt435.2).bind fun bt440 => (if (t411 != t413) = true then (some false) else (if t410 = t412 then (if (t419 != t422) = true then (some false) else (if t417 = t420 then (if t418 = t421 then (if (t428 != bt431.2) = true then (some false) else ((laws_iSame.f kj46 t427 bt431.1).bind fun t443 => (if t443 = true then (if (bt437.2.2 != bt440.2.2) = true then (some false) else (if bt437.1 = bt440.1 then (if bt437.2.1 = bt440.2.1 then (if bt437.2.2 = true then (if (wrap64 (bt437.1 * bt435.2)) = (wrap64 (bt437.2.1 * bt435.1)) then ((laws_iCommon.f kj46 bt437.1 bt437.2.1).bind fun t444 => (laws_FnRatesChanged.j7 kj46 t423 t424 t427 t428 (t444 != 1))) else (some false)) else (laws_FnRatesChanged.j7 kj46 t423 t424 t427 t428 false)) else (some false)) else (some false))) else (some false)))) else (some false)) else (some false))) else (some false))))))) = some r := H
       have A156 := Aside0.mk A1560
       clear A1560
       replace H := Option.bind_eq_some_iff.mp H
       obtain ⟨⟨t431, t432⟩, A1570, H⟩ := H
       replace H : ((spec_DrawLeastRatio.f l1).bind fun bt435 => ((impl_LeastRatio.f kj46 bt435.1 bt435.2).bind fun bt437 => ((spec_LeastRatio.f kj46 bt435.1 bt435.2).bind fun bt440 => (if (t411 != t413) = true then (some false) else (if t410 = t412 then (if (t419 != t422) = true then (some false) else (if t417 = t420 then (if t418 = t421 then (if (t428 != t432) = true then (some false) else ((laws_iSame.f kj46 t427 t431).bind fun t443 => (if t443 = true then (if (bt437.2.2 != bt440.2.2) = true then (some false) else (if bt437.1 = bt440.1 then (if bt437.2.1 = bt440.2.1 then (if bt437.2.2 = true then (if (wrap64 (bt437.1 * bt435.2)) = (wrap64 (bt437.2.1 * bt435.1)) then ((laws_iCommon.f kj46 bt437.1 bt437.2.1).bind fun t444 => (laws_FnRatesChanged.j7 kj46 t423 t424 t427 t428 (t444 != 1))) else (some false)) else (laws_FnRatesChanged.j7 kj46 t423 t424 t427 t428 false)) else (some false)) else (some false))) else (some false)))) else (some false)) else (some false))) else (some false)))))) = some r := H
       have A157 := Aside0.mk A1570
       clear A1570
       replace H := Option.bind_eq_some_iff.mp H
       obtain ⟨⟨t435, t436⟩, A1580, H⟩ := H
       replace H : ((impl_LeastRatio.f kj46 t435 t436).bind fun bt437 => ((spec_LeastRatio.f kj46 t435 t436).bind fun bt440 => (if (t411 != t413) = true then (some false) else (if t410 = t412 then (if (t419 != t422) = true then (some false) else (if t417 = t420 then (if t418 = t421 then (if (t428 != t432) = true then (some false) else ((laws_iSame.f kj46 t427 t431).bind fun t443 => (if t443 = true then (if (bt437.2.2 != bt440.2.2) = true then (some false) else (if bt437.1 = bt440.1 then (if bt437.2.1 = bt440.2.1 then (if bt437.2.2 = true then (if (wrap64 (bt437.1 * t436)) = (wrap64 (bt437.2.1 * t435)) then ((laws_iCommon.f kj46 bt437.1 bt437.2.1).bind fun t444 => (laws_FnRatesChanged.j7 kj46 t423 t424 t427 t428 (t444 != 1))) else (some false)) else (laws_FnRatesChanged.j7 kj46 t423 t424 t427 t428 false)) else (some false)) else (some false))) else (some false)))) else (some false)) else (some false))) else (some false))))) = some r := H
       have A158 := Aside0.mk A1580
       clear A1580
       replace H := Option.bind_eq_some_iff.mp H
       obtain ⟨⟨t437, t438, t439⟩, A1590, H⟩ := H
       replace H : ((spec_LeastRatio.f kj46 t435 t436).bind fun bt440 => (if (t411 != t413) = true then (some false) else (if t410 = t412 then (if (t419 != t422) = true then (some false) else (if t417 = t420 then (if t418 = t421 then (if (t428 != t432) = true then (some false) else ((laws_iSame.f kj46 t427 t431).bind fun t443 => (if t443 = true then (if (t439 != bt440.2.2) = true then (some false) else (if t437 = bt440.1 then (if t438 = bt440.2.1 then (if t439 = true then (if (wrap64 (t437 * t436)) = (wrap64 (t438 * t435)) then ((laws_iCommon.f kj46 t437 t438).bind fun t444 => (laws_FnRatesChanged.j7 kj46 t423 t424 t427 t428 (t444 != 1))) else (some false)) else (laws_FnRatesChanged.j7 kj46 t423 t424 t427 t428 false)) else (some false)) else (some false))) else (some false)))) else (some false)) else (some false))) else (some false)))) = some r := H
       have A159 := Aside0.mk A1590
       clear A1590
       replace H := Option.bind_eq_some_iff.mp H
       obtain ⟨⟨t440, t441, t442⟩, A1600, H⟩ := H
       replace H : (if (t411 != t413) = true then (some false) else (if t410 = t412 then (if (t419 != t422) = true then (some false) else (if t417 = t420 then (if t418 = t421 then (if (t428 != t432) = true then (some false) else ((laws_iSame.f kj46 t427 t431).bind fun t443 => (if t443 = true then (if (t439 != t442) = true then (some false) else (if t437 = t440 then (if t438 = t441 then (if t439 = true then (if (wrap64 (t437 * t436)) = (wrap64 (t438 * t435)) then ((laws_iCommon.f kj46 t437 t438).bind fun t444 => (laws_FnRatesChanged.j7 kj46 t423 t424 t427 t428 (t444 != 1))) else (some false)) else (laws_FnRatesChanged.j7 kj46 t423 t424 t427 t428 false)) else (some false)) else (some false))) else (some false)))) else (some false)) else (some false))) else (some false))) = some r := H
       have A160 := Aside0.mk A1600
       clear A1600
       have HC161 := Aside0.mk H
       clear H
       go_upto_region 48 with (first | (go_at_call 18; (with_reducible refine (spec_DrawLengthAfter.calls _ _ l1 t407 t408 t409 _ ?side1 ?side2 A149.out).mono ?_); (case side1 => repeat (first | exact (Kd.C_below HR1.out HB.out) | (with_reducible refine Kd.C_alloc ?_ _) | (with_reducible refine Kd.C_drewN ?_ _) | (with_reducible refine Kd.C_drew ?_))); (case side2 => exact HC1.out); rintro e w162 ⟨rfl, hb⟩; have n0_ := Aside0.mk (below_step (by repeat (first | (with_reducible first | exact HB.out | apply below_alloc | apply pw_below_drewN | apply below_drew1) | exact HB.out)) hb); clear HB; have HB := n0_; clear n0_; (try clear hb); (try clear hb2); (try clear hk); (try clear hi)) | (go_at_call 15; (with_reducible refine (impl_LengthAfter.calls t407 t408 t409 t410 t411 _ A150.out).mono ?_); rintro e w' ⟨rfl, ⟨nd, rfl⟩⟩; (try first | exact ⟨rfl, _, World.drewN_drewN _ _ _⟩ | exact ⟨rfl, _, Eq.trans (World.drewN_drewN _ _ _) (congrArg (World.drewN _) (Nat.add_assoc _ _ _))⟩)) | (go_at_call 19; (with_reducible refine (spec_LengthAfter.calls t407 t408 t409 t412 t413 _ A151.out).mono ?_); rintro e w' ⟨rfl, ⟨nd, rfl⟩⟩; (try first | exact ⟨rfl, _, World.drewN_drewN _ _ _⟩ | exact ⟨rfl, _, Eq.trans (World.drewN_drewN _ _ _) (congrArg (World.drewN _) (Nat.add_assoc _ _ _))⟩)) | (go_at_call 20; (with_reducible refine (spec_DrawSourceOf.calls _ _ l1 t414 t415 t416 _ ?side1 ?side2 A152.out).mono ?_); (case side1 => repeat (first | exact (Kd.C_below HR1.out (by repeat (first | (with_reducible first | exact HB.out | apply below_alloc | apply pw_below_drewN | apply below_drew1) | exact HB.out))) | (with_reducible refine Kd.C_alloc ?_ _) | (with_reducible refine Kd.C_drewN ?_ _) | (with_reducible refine Kd.C_drew ?_))); (case side2 => exact HC1.out); rintro e w163 ⟨rfl, hb⟩; have n0_ := Aside0.mk (below_step (by repeat (first | (with_reducible first | exact HB.out | apply below_alloc | apply pw_below_drewN | apply below_drew1) | exact HB.out)) hb); clear HB; have HB := n0_; clear n0_; (try clear hb); (try clear hb2); (try clear hk); (try clear hi)) | (go_at_call 16; (with_reducible refine (impl_SourceOf.calls t414 t415 t416 t417 t418 t419 _ A153.out).mono ?_); rintro e w' ⟨rfl, ⟨nd, rfl⟩⟩; (try first | exact ⟨rfl, _, World.drewN_drewN _ _ _⟩ | exact ⟨rfl, _, Eq.trans (World.drewN_drewN _ _ _) (congrArg (World.drewN _) (Nat.add_assoc _ _ _))⟩)) | (go_at_call 21; (with_reducible refine (spec_SourceOf.calls t414 t415 t416 t420 t421 t422 _ A154.out).mono ?_); rintro e w' ⟨rfl, ⟨nd, rfl⟩⟩; (try first | exact ⟨rfl, _, World.drewN_drewN _ _ _⟩ | exact ⟨rfl, _, Eq.trans (World.drewN_drewN _ _ _) (congrArg (World.drewN _) (Nat.add_assoc _ _ _))⟩)) | (go_at_call 22; (with_reducible refine (spec_DrawLinesOfSame.calls kj46 _ _ l1 t423 t424 _ ?side1 ?side2 A155.out).mono ?_); (case side1 => repeat (first | exact (Kd.C_below HR1.out (by repeat (first | (with_reducible first | exact HB.out | apply below_alloc | apply pw_below_drewN | apply below_drew1) | exact HB.out))) | (with_reducible refine Kd.C_alloc ?_ _) | (with_reducible refine Kd.C_drewN ?_ _) | (with_reducible refine Kd.C_drew ?_))); (case side2 => exact HC1.out); rintro e w164 ⟨v425, rfl, ho0, hb⟩; have n0_ := Aside0.mk (Kd.R_lower ho0 (below_size (by repeat (first | (with_reducible first | exact HB.out | apply below_alloc | apply pw_below_drewN | apply below_drew1) | exact HB.out)))); have n1_ := Aside0.mk (below_step (by repeat (first | (with_reducible first | exact HB.out | apply below_alloc | apply pw_below_drewN | apply below_drew1) | exact HB.out)) hb); clear HB; have HO426 := n0_; have HB := n1_; clear n0_ n1_; (try clear hb); (try clear hb2); (try clear hk); (try clear hi); (try clear ho0); obtain ⟨Ao165, co165, eo165⟩ := Kd.R_slice HO426.out; subst eo165) | (go_at_call 23; (with_reducible refine (impl_LinesOfSame.calls kj46 _ _ t423 t424 t427 t428 _ ?side1 ?side2 A156.out).mono ?_); (case side1 => repeat (first | exact (Kd.R_reads' HO426.out).2.2 | (with_reducible refine Kd.C_alloc ?_ _) | (with_reducible refine Kd.C_drewN ?_ _) | (with_reducible refine Kd.C_drew ?_))); (case side2 => exact (Kd.R_reads' HO426.out).2.1); rintro e w166 ⟨v429, rfl, ho0, hb⟩; have n0_ := Aside0.mk (Kd.R_elder' (by (with_reducible repeat (first | apply Kd.R_alloc | apply Kd.R_drewN | apply Kd.R_drew)); exact HO426.out) (Kd.R_base ho0) hb); have n1_ := Aside0.mk (Kd.R_lower (Kd.R_new' ho0 (Kd.R_lt (by (with_reducible repeat (first | apply Kd.R_alloc | apply Kd.R_drewN | apply Kd.R_drew)); exact HO426.out))) (below_size (by repeat (first | (with_reducible first | exact HB.out | apply below_alloc | apply pw_below_drewN | apply below_drew1) | exact HB.out)))); have n2_ := Aside0.mk (below_step (by repeat (first | (with_reducible first | exact HB.out | apply below_alloc | apply pw_below_drewN | apply below_drew1) | exact HB.out)) hb); clear HO426; clear HB; have HO426 := n0_; have HO430 := n1_; have HB := n2_; clear n0_ n1_ n2_; (try clear hb); (try clear hb2); (try clear hk); (try clear hi); (try clear ho0)) | (go_at_call 24; (with_reducible refine (spec_LinesOfSame.calls kj46 _ _ t423 t424 t431 t432 _ ?side1 ?side2 A157.out).mono ?_); (case side1 => repeat (first | exact (Kd.R_reads' HO426.out).2.2 | (with_reducible refine Kd.C_alloc ?_ _) | (with_reducible refine Kd.C_drewN ?_ _) | (with_reducible refine Kd.C_drew ?_))); (case side2 => exact (Kd.R_reads' HO426.out).2.1); rintro e w167 ⟨v433, rfl, ho0, hb⟩; have n0_ := Aside0.mk (Kd.R_elder' (by (with_reducible repeat (first | apply Kd.R_alloc | apply Kd.R_drewN | apply Kd.R_drew)); exact HO426.out) (Kd.R_base ho0) hb); have n1_ := Aside0.mk (Kd.R_elder' (by (with_reducible repeat (first | apply Kd.R_alloc | apply Kd.R_drewN | apply Kd.R_drew)); exact HO430.out) (Kd.R_base ho0) hb); have n2_ := Aside0.mk (Kd.R_lower (Kd.R_new' (Kd.R_new' ho0 (Kd.R_lt (by (with_reducible repeat (first | apply Kd.R_alloc | apply Kd.R_drewN | apply Kd.R_drew)); exact HO426.out))) (Kd.R_lt (by (with_reducible repeat (first | apply Kd.R_alloc | apply Kd.R_drewN | apply Kd.R_drew)); exact HO430.out))) (below_size (by repeat (first | (with_reducible first | exact HB.out | apply below_alloc | apply pw_below_drewN | apply below_drew1) | exact HB.out)))); have n3_ := Aside0.mk (below_step (by repeat (first | (with_reducible first | exact HB.out | apply below_alloc | apply pw_below_drewN | apply below_drew1) | exact HB.out)) hb); clear HO426; clear HO430; clear HB; have HO426 := n0_; have HO430 := n1_; have HO434 := n2_; have HB := n3_; clear n0_ n1_ n2_ n3_; (try clear hb); (try clear hb2); (try clear hk); (try clear hi); (try clear ho0)) | (go_at_call 25; (with_reducible refine (spec_DrawLeastRatio.calls _ _ l1 t435 t436 _ ?side1 ?side2 A158.out).mono ?_); (case side1 => repeat (first | exact (Kd.C_below HR1.out HB.out) | (with_reducible refine Kd.C_alloc ?_ _) | (with_reducible refine Kd.C_drewN ?_ _) | (with_reducible refine Kd.C_drew ?_))); (case side2 => exact HC1.out); rintro e w168 ⟨rfl, hb⟩; have n0_ := Aside0.mk (Kd.R_below (by (with_reducible repeat (first | apply Kd.R_alloc | apply Kd.R_drewN | apply Kd.R_drew)); exact HO426.out) hb); have n1_ := Aside0.mk (Kd.R_below (by (with_reducible repeat (first | apply Kd.R_alloc | apply Kd.R_drewN | apply Kd.R_drew)); exact HO430.out) hb); have n2_ := Aside0.mk (Kd.R_below (by (with_reducible repeat (first | apply Kd.R_alloc | apply Kd.R_drewN | apply Kd.R_drew)); exact HO434.out) hb); have n3_ := Aside0.mk (below_step (by repeat (first | (with_reducible first | exact HB.out | apply below_alloc | apply pw_below_drewN | apply below_drew1) | exact HB.out)) hb); clear HO426; clear HO430; clear HO434; clear HB; have HO426 := n0_; have HO430 := n1_; have HO434 := n2_; have HB := n3_; clear n0_ n1_ n2_ n3_; (try clear hb); (try clear hb2); (try clear hk); (try clear hi)) | (go_at_call 17; (with_reducible refine (impl_LeastRatio.calls kj46 t435 t436 t437 t438 t439 _ A159.out).mono ?_); rintro e w169 ⟨rfl, hb⟩; have n0_ := Aside0.mk (Kd.R_below (by (with_reducible repeat (first | apply Kd.R_alloc | apply Kd.R_drewN | apply Kd.R_drew)); exact HO426.out) hb); have n1_ := Aside0.mk (Kd.R_below (by (with_reducible repeat (first | apply Kd.R_alloc | apply Kd.R_drewN | apply Kd.R_drew)); exact HO430.out) hb); have n2_ := Aside0.mk (Kd.R_below (by (with_reducible repeat (first | apply Kd.R_alloc | apply Kd.R_drewN | apply Kd.R_drew)); exact HO434.out) hb); have n3_ := Aside0.mk (below_step (by repeat (first | (with_reducible first | exact HB.out | apply below_alloc | apply pw_below_drewN | apply below_drew1) | exact HB.out)) hb); clear HO426; clear HO430; clear HO434; clear HB; have HO426 := n0_; have HO430 := n1_; have HO434 := n2_; have HB := n3_; clear n0_ n1_ n2_ n3_; (try clear hb); (try clear hb2); (try clear hk); (try clear hi)) | (go_at_call 26; (with_reducible refine (spec_LeastRatio.calls kj46 t435 t436 t440 t441 t442 _ A160.out).mono ?_); rintro e w' ⟨rfl, ⟨nd, rfl⟩⟩; (try first | exact ⟨rfl, _, World.drewN_drewN _ _ _⟩ | exact ⟨rfl, _, Eq.trans (World.drewN_drewN _ _ _) (congrArg (World.drewN _) (Nat.add_assoc _ _ _))⟩)))
       (try simp only [Act.put, List.setIfInBounds_toArray, List.set_cons_zero, List.set_cons_succ])
       refine cutF [ff, ff, ff, ff, ff, ff, ff, ff, ff, ff, ff, ff, ff, ff, ff, ff, ff, ff, ff, ff, ff, ff, ff, ff, ff, ff, ff, ff, ff, ff, ff, ff, ff, ff, ff, ff, ff, ff, ff, ff, ff, ff, ff, ff, ff, ff, ff, ff, ff, ff, ff, ff, ff, ff, ff, ff, ff, ff, ff, ff, ff, ff, ff, ff, ff, ff, tt, tt, tt, tt, tt, tt, tt, tt, tt, tt, tt, tt, tt, tt, tt, tt, tt, tt, tt, tt, tt, tt, tt, tt, tt, tt, tt, tt, tt, tt, tt, tt, tt, tt, tt, tt, tt, tt, tt, tt, tt, tt, tt, tt, tt, tt, tt, tt, tt, tt, tt, tt, tt, tt, tt, tt, tt, tt, tt, tt, tt, tt, tt, tt, tt, tt, tt, tt, tt, tt, tt, tt, tt, tt, tt, tt, tt, tt, tt, tt, tt, tt, tt, tt, tt, tt, tt, tt, tt, tt, tt, tt, tt, tt, tt, tt, tt, tt, tt, tt, tt, tt, tt, tt, tt, tt, tt, tt, tt, tt, tt, tt, tt, tt, tt, tt, tt, tt, tt, tt, tt, tt, tt, tt, tt, tt, tt, ff, ff, tt, tt, tt, tt, tt, tt, tt, tt, tt, tt, tt, tt, tt, tt, tt, tt, tt, tt, tt, tt, tt, tt, tt, tt, tt, tt, tt, tt, tt, tt, tt, tt, tt, tt, tt, tt, tt, tt, tt, tt, tt, tt, tt, tt, tt, tt, tt, tt, tt, tt, tt, tt, tt, tt, tt, tt, tt, tt, tt, tt, tt, tt, tt, tt, tt, tt, tt, tt, tt, tt, tt, tt, tt, tt, tt, tt, tt, tt, tt, tt, tt, tt, tt, tt, tt, tt, tt, tt, tt, tt, tt, tt, tt, tt, tt, tt, tt, tt, tt, tt, tt, tt, tt, tt, tt, tt, tt, tt, tt, tt, tt, tt, tt, tt, tt, tt, tt, tt, tt, tt, tt, tt, tt, tt, tt, tt, tt, tt, tt, tt, tt, tt, tt, tt, tt, tt, tt, tt, tt, tt, tt, tt, tt, tt, tt, tt, tt, tt, tt, tt, tt, tt, tt, tt, tt, tt, tt, tt, tt, tt, tt, tt, tt, tt, tt, tt, tt, tt, tt, tt, tt, tt, tt, tt, tt, tt, tt, tt, tt, tt, tt, tt, tt, tt, tt, tt, tt, tt, tt, tt, tt, tt, tt, tt, tt, tt, tt, tt, tt, tt, tt, tt, tt, tt, tt, tt, tt, tt, tt, tt, tt, tt, tt, tt, tt, tt, tt, tt, tt, tt, tt, tt, tt, tt, tt, tt, tt, tt, tt, tt, tt, tt, tt, tt, tt, tt, tt, tt, tt, tt, tt, tt, tt, tt, tt, tt, tt, tt, tt, tt, tt, tt, tt, tt, tt, tt, tt, tt, tt, tt, tt, tt, tt, tt, tt, tt, tt, tt, tt, tt, tt, tt, tt, tt, tt, tt, tt, tt, tt, tt, tt, tt, tt, tt, tt, tt, tt, tt, tt, tt, tt, tt, tt, tt, tt, tt, tt, tt, tt, tt, tt, tt, tt, tt, tt, tt, tt, tt, tt, tt, ff, ff, ff, ff, ff, ff, ff, ff, ff, ff, ff, ff, ff] (fun f_ wc => ∃ (kq : Nat) (x504_160 : Bool), (f_ 504) = .bool x504_160 ∧ Aside0 (laws_FnRatesChanged.j7 kq t423 t424 t427 t428 x504_160 = some r) ∧ Aside0 (kq ≤ kj46) ∧ Aside0 (Kd.R (Kd.int .i64) 3 wc w.heap.size (fun k_ => some k_ ≠ (v429 : Value).ownBlock) (.slice Ao165 t423.length co165) t423) ∧ Aside0 (Kd.R (Kd.int .i64) 3 wc w.heap.size (fun k_ => some k_ ≠ ((.slice Ao165 t423.length co165) : Value).ownBlock) v429 t427) ∧ Aside0 (Below w.heap.size w wc)) ?first_j7 ?rest_j7
       case first_j7 => as_aux_lemma =>
        intro J_ K_ hJ_j7 hK_
        have H := HC161.out
        clear HC161
        by_cases c170 : (t411 != t413) = true
        ·rw [if_pos c170] at H
         have c170b0 : (t411 != t413) = true := c170
         (try (have c170b1 : decide (t411 = t413) = false := by simpa using c170))
         (try (have c170b2 : (t411 == t413) = false := by simpa using c170))
         (try (have c170b3 : ¬ (t411 = t413) := by simpa using c170))
         clear c170
         (first | rw [c170b0] | (simp only [i64_w, i32_w]; rw [c170b0]) | skip)
         obtain rfl := Option.some.inj H
         exact absurd HT.out (by simp)
        ·rw [if_neg c170] at H
         have c170b0 : (t411 != t413) = false := by simpa using c170
         (try (have c170b1 : decide (t411 = t413) = true := by simpa using c170))
         (try (have c170b2 : (t411 == t413) = true := by simpa using c170))
         clear c170
         (first | rw [c170b0] | (simp only [i64_w, i32_w]; rw [c170b0]) | skip)
         by_cases c171 : t410 = t412
         ·rw [if_pos c171] at H
          have c171b0 : (t410 == t412) = true := beq_iff_eq.mpr c171
          have c171b1 : (t410 != t412) = false := bne_eq_false_iff_eq.mpr c171
          clear c171
          by_cases c172 : (t419 != t422) = true
          ·rw [if_pos c172] at H
           have c172b0 : (t419 != t422) = true := c172
           (try (have c172b1 : decide (t419 = t422) = false := by simpa using c172))
           (try (have c172b2 : (t419 == t422) = false := by simpa using c172))
           (try (have c172b3 : ¬ (t419 = t422) := by simpa using c172))
           clear c172
           obtain rfl := Option.some.inj H
           exact absurd HT.out (by simp)
          ·rw [if_neg c172] at H
           have c172b0 : (t419 != t422) = false := by simpa using c172
           (try (have c172b1 : decide (t419 = t422) = true := by simpa using c172))
           (try (have c172b2 : (t419 == t422) = true := by simpa using c172))
           clear c172
           by_cases c173 : t417 = t420
           ·rw [if_pos c173] at H
            have c173b0 : (t417 == t420) = true := beq_iff_eq.mpr c173
            have c173b1 : (t417 != t420) = false := bne_eq_false_iff_eq.mpr c173
            clear c173
            by_cases c174 : t418 = t421
            ·rw [if_pos c174] at H
             have c174b0 : (t418 == t421) = true := beq_iff_eq.mpr c174
             have c174b1 : (t418 != t421) = false := bne_eq_false_iff_eq.mpr c174
             clear c174
             by_cases c175 : (t428 != t432) = true
             ·rw [if_pos c175] at H
              have c175b0 : (t428 != t432) = true := c175
              (try (have c175b1 : decide (t428 = t432) = false := by simpa using c175))
              (try (have c175b2 : (t428 == t432) = false := by simpa using c175))
              (try (have c175b3 : ¬ (t428 = t432) := by simpa using c175))
              clear c175
              obtain rfl := Option.some.inj H
              exact absurd HT.out (by simp)
             ·rw [if_neg c175] at H
              have c175b0 : (t428 != t432) = false := by simpa using c175
              (try (have c175b1 : decide (t428 = t432) = true := by simpa using c175))
              (try (have c175b2 : (t428 == t432) = true := by simpa using c175))
              clear c175
              replace H := Option.bind_eq_some_iff.mp H
              obtain ⟨t443, A1760, H⟩ := H
              replace H : (if t443 = true then (if (t439 != t442) = true then (some false) else (if t437 = t440 then (if t438 = t441 then (if t439 = true then (if (wrap64 (t437 * t436)) = (wrap64 (t438 * t435)) then ((laws_iCommon.f kj46 t437 t438).bind fun t444 => (laws_FnRatesChanged.j7 kj46 t423 t424 t427 t428 (t444 != 1))) else (some false)) else (laws_FnRatesChanged.j7 kj46 t423 t424 t427 t428 false)) else (some false)) else (some false))) else (some false)) = some r := H
              have A176 := Aside0.mk A1760
              clear A1760
              by_cases c177 : t443 = true
              ·subst c177
               have H1 : (if (t439 != t442) = true then (some false) else (if t437 = t440 then (if t438 = t441 then (if t439 = true then (if (wrap64 (t437 * t436)) = (wrap64 (t438 * t435)) then ((laws_iCommon.f kj46 t437 t438).bind fun t444 => (laws_FnRatesChanged.j7 kj46 t423 t424 t427 t428 (t444 != 1))) else (some false)) else (laws_FnRatesChanged.j7 kj46 t423 t424 t427 t428 false)) else (some false)) else (some false))) = some r := by rw [if_pos rfl] at H; exact H
               clear H
               have H := H1
               clear H1
               by_cases c178 : (t439 != t442) = true
               ·rw [if_pos c178] at H
                have c178b0 : (t439 != t442) = true := c178
                (try (have c178b1 : decide (t439 = t442) = false := by simpa using c178))
                (try (have c178b2 : (t439 == t442) = false := by simpa using c178))
                (try (have c178b3 : ¬ (t439 = t442) := by simpa using c178))
                clear c178
                obtain rfl := Option.some.inj H
                exact absurd HT.out (by simp)
               ·rw [if_neg c178] at H
                have c178b0 : (t439 != t442) = false := by simpa using c178
                (try (have c178b1 : decide (t439 = t442) = true := by simpa using c178))
                (try (have c178b2 : (t439 == t442) = true := by simpa using c178))
                clear c178
                by_cases c179 : t437 = t440
                ·rw [if_pos c179] at H
                 have c179b0 : (t437 == t440) = true := beq_iff_eq.mpr c179
                 have c179b1 : (t437 != t440) = false := bne_eq_false_iff_eq.mpr c179
                 clear c179
                 by_cases c180 : t438 = t441
                 ·rw [if_pos c180] at H
                  have c180b0 : (t438 == t441) = true := beq_iff_eq.mpr c180
                  have c180b1 : (t438 != t441) = false := bne_eq_false_iff_eq.mpr c180
                  clear c180
                  by_cases c181 : t439 = true
                  ·subst c181
                   have H1 : (if (wrap64 (t437 * t436)) = (wrap64 (t438 * t435)) then ((laws_iCommon.f kj46 t437 t438).bind fun t444 => (laws_FnRatesChanged.j7 kj46 t423 t424 t427 t428 (t444 != 1))) else (some false)) = some r := by rw [if_pos rfl] at H; exact H
                   clear H
                   have H := H1
                   clear H1
                   by_cases c182 : (wrap64 (t437 * t436)) = (wrap64 (t438 * t435))
                   ·rw [if_pos c182] at H
                    have c182b0 : ((wrap64 (t437 * t436)) == (wrap64 (t438 * t435))) = true := beq_iff_eq.mpr c182
                    have c182b1 : ((wrap64 (t437 * t436)) != (wrap64 (t438 * t435))) = false := bne_eq_false_iff_eq.mpr c182
                    clear c182
                    replace H := Option.bind_eq_some_iff.mp H
                    obtain ⟨t444, A1830, H⟩ := H
                    replace H : (laws_FnRatesChanged.j7 kj46 t423 t424 t427 t428 (t444 != 1)) = some r := H
                    have A183 := Aside0.mk A1830
                    clear A1830
                    have H' := Aside0.mk H
                    clear H
                    obtain ⟨Ao184, co184, eo184⟩ := Kd.R_slice HO430.out
                    subst eo184
                    obtain ⟨Ao185, co185, eo185⟩ := Kd.R_slice HO434.out
                    subst eo185
                    go_wp2_with (first | (go_at_call 14; (with_reducible refine (laws_iSame.calls kj46 _ _ t427 _ _ t431 true _ ?side1 ?side2 ?side3 ?side4 A176.out).mono ?_); (case side1 => repeat (first | exact (Kd.R_reads' HO430.out).2.2 | (with_reducible refine Kd.C_alloc ?_ _) | (with_reducible refine Kd.C_drewN ?_ _) | (with_reducible refine Kd.C_drew ?_))); (case side2 => exact (Kd.R_reads' HO430.out).2.1); (case side3 => repeat (first | exact (Kd.R_reads' HO434.out).2.2 | (with_reducible refine Kd.C_alloc ?_ _) | (with_reducible refine Kd.C_drewN ?_ _) | (with_reducible refine Kd.C_drew ?_))); (case side4 => exact (Kd.R_reads' HO434.out).2.1); rintro e w' ⟨rfl, ⟨nd, rfl⟩⟩; (try first | exact ⟨rfl, _, World.drewN_drewN _ _ _⟩ | exact ⟨rfl, _, Eq.trans (World.drewN_drewN _ _ _) (congrArg (World.drewN _) (Nat.add_assoc _ _ _))⟩)) | (go_at_call 27; (with_reducible refine (laws_iCommon.calls kj46 t437 t438 t444 _ A183.out).mono ?_); rintro e w' ⟨rfl, ⟨nd, rfl⟩⟩; (try first | exact ⟨rfl, _, World.drewN_drewN _ _ _⟩ | exact ⟨rfl, _, Eq.trans (World.drewN_drewN _ _ _) (congrArg (World.drewN _) (Nat.add_assoc _ _ _))⟩)))
                    refine meetF hJ_j7 (by kernel_rfl) (by kernel_rfl) ?rel_z186
                    case rel_z186 => (try simp only [List.getD_cons_succ, List.getD_cons_zero]); exact ⟨_, ((t444 != 1)), (by first | rfl | (simp; done) | (simp [*]; done)), H', ⟨by have := HJ11.out; have := HJ46.out; first | omega | exact Nat.le_refl _⟩, ⟨by (with_reducible repeat (first | apply Kd.R_alloc | apply Kd.R_drewN | apply Kd.R_drew)); exact Kd.R_mono HO426.out (fun _ hk => hk.1.2)⟩, ⟨by (with_reducible repeat (first | apply Kd.R_alloc | apply Kd.R_drewN | apply Kd.R_drew)); exact Kd.R_mono HO430.out (fun _ hk => hk.1.2)⟩, ⟨by repeat (first | (with_reducible first | exact HB.out | apply below_alloc | apply pw_below_drewN | apply below_drew1) | exact HB.out)⟩⟩
                   ·rw [if_neg c182] at H
                    have c182b0 : ((wrap64 (t437 * t436)) == (wrap64 (t438 * t435))) = false := beq_eq_false_iff_ne.mpr c182
                    have c182b1 : ((wrap64 (t437 * t436)) != (wrap64 (t438 * t435))) = true := bne_iff_ne.mpr c182
                    obtain rfl := Option.some.inj H
                    exact absurd HT.out (by simp)
                  ·replace c181 := Bool.eq_false_iff.mpr c181
                   subst c181
                   have H1 : (laws_FnRatesChanged.j7 kj46 t423 t424 t427 t428 false) = some r := by rw [if_neg (show ¬ (false = true) by decide)] at H; exact H
                   clear H
                   have H := H1
                   clear H1
                   have H' := Aside0.mk H
                   clear H
                   obtain ⟨Ao187, co187, eo187⟩ := Kd.R_slice HO430.out
                   subst eo187
                   obtain ⟨Ao188, co188, eo188⟩ := Kd.R_slice HO434.out
                   subst eo188
                   go_wp2_with (first | (go_at_call 14; (with_reducible refine (laws_iSame.calls kj46 _ _ t427 _ _ t431 true _ ?side1 ?side2 ?side3 ?side4 A176.out).mono ?_); (case side1 => repeat (first | exact (Kd.R_reads' HO430.out).2.2 | (with_reducible refine Kd.C_alloc ?_ _) | (with_reducible refine Kd.C_drewN ?_ _) | (with_reducible refine Kd.C_drew ?_))); (case side2 => exact (Kd.R_reads' HO430.out).2.1); (case side3 => repeat (first | exact (Kd.R_reads' HO434.out).2.2 | (with_reducible refine Kd.C_alloc ?_ _) | (with_reducible refine Kd.C_drewN ?_ _) | (with_reducible refine Kd.C_drew ?_))); (case side4 => exact (Kd.R_reads' HO434.out).2.1); rintro e w' ⟨rfl, ⟨nd, rfl⟩⟩; (try first | exact ⟨rfl, _, World.drewN_drewN _ _ _⟩ | exact ⟨rfl, _, Eq.trans (World.drewN_drewN _ _ _) (congrArg (World.drewN _) (Nat.add_assoc _ _ _))⟩)))
                   refine meetF hJ_j7 (by kernel_rfl) (by kernel_rfl) ?rel_z189
                   case rel_z189 => (try simp only [List.getD_cons_succ, List.getD_cons_zero]); exact ⟨_, (false), (by first | rfl | (simp; done) | (simp [*]; done)), H', ⟨by have := HJ11.out; have := HJ46.out; first | omega | exact Nat.le_refl _⟩, ⟨by (with_reducible repeat (first | apply Kd.R_alloc | apply Kd.R_drewN | apply Kd.R_drew)); exact Kd.R_mono HO426.out (fun _ hk => hk.1.2)⟩, ⟨by (with_reducible repeat (first | apply Kd.R_alloc | apply Kd.R_drewN | apply Kd.R_drew)); exact Kd.R_mono HO430.out (fun _ hk => hk.1.2)⟩, ⟨by repeat (first | (with_reducible first | exact HB.out | apply below_alloc | apply pw_below_drewN | apply below_drew1) | exact HB.out)⟩⟩
                 ·rw [if_neg c180] at H
                  have c180b0 : (t438 == t441) = false := beq_eq_false_iff_ne.mpr c180
                  have c180b1 : (t438 != t441) = true := bne_iff_ne.mpr c180
                  obtain rfl := Option.some.inj H
                  exact absurd HT.out (by simp)
                ·rw [if_neg c179] at H
                 have c179b0 : (t437 == t440) = false := beq_eq_false_iff_ne.mpr c179
                 have c179b1 : (t437 != t440) = true := bne_iff_ne.mpr c179
                 obtain rfl := Option.some.inj H
                 exact absurd HT.out (by simp)
              ·replace c177 := Bool.eq_false_iff.mpr c177
               subst c177
               have H1 : (some false) = some r := by rw [if_neg (show ¬ (false = true) by decide)] at H; exact H
               clear H
               have H := H1
               clear H1
               obtain rfl := Option.some.inj H
               exact absurd HT.out (by simp)
            ·rw [if_neg c174] at H
             have c174b0 : (t418 == t421) = false := beq_eq_false_iff_ne.mpr c174
             have c174b1 : (t418 != t421) = true := bne_iff_ne.mpr c174
             obtain rfl := Option.some.inj H
             exact absurd HT.out (by simp)
           ·rw [if_neg c173] at H
            have c173b0 : (t417 == t420) = false := beq_eq_false_iff_ne.mpr c173
            have c173b1 : (t417 != t420) = true := bne_iff_ne.mpr c173
            obtain rfl := Option.some.inj H
            exact absurd HT.out (by simp)
         ·rw [if_neg c171] at H
          have c171b0 : (t410 == t412) = false := beq_eq_false_iff_ne.mpr c171
          have c171b1 : (t410 != t412) = true := bne_iff_ne.mpr c171
          obtain rfl := Option.some.inj H
          exact absurd HT.out (by simp)
       case rest_j7 => as_aux_lemma =>
        intro f_ wc hcut
        dsimp only [ov]
        generalize f_ 504 = v504 at hcut ⊢
        clear HC161
        try clear c1
        try clear p2
        try clear p3
        try clear q3
        try clear hx3
        try clear c4
        try clear c6
        try clear p6
        try clear c9
        try clear c10
        try clear c11
        try clear c12
        try clear c13
        try clear c14
        try clear c17
        try clear c18
        try clear p38
        try clear q38
        try clear hx38
        try clear p39
        try clear q39
        try clear hx39
        try clear c48
        try clear c64
        try clear c64b0
        try clear p64
        try clear c98
        try clear c99
        try clear c99b0
        try clear c100
        try clear c100b0
        try clear c101
        try clear c101b0
        try clear c102
        try clear c102b0
        try clear c103
        try clear c103b0
        try clear c103b1
        try clear c104
        try clear c104b0
        try clear c105
        try clear c105b0
        try clear c106
        try clear c106b0
        try clear c106b1
        try clear c107
        try clear c107b0
        try clear c108
        try clear c108b0
        try clear c109
        try clear c109b0
        try clear c110
        try clear c110b0
        try clear c115
        try clear c115b0
        try clear c116
        try clear c116b0
        try clear c121
        try clear c121b0
        try clear c122
        try clear c122b0
        try clear c123
        try clear c123b0
        try clear c124
        try clear c124b0
        try clear c125
        try clear c125b0
        try clear c126
        try clear c126b0
        try clear c131
        try clear c131b0
        try clear c132
        try clear c132b0
        try clear c140
        try clear c141
        try clear c143
        try clear c170
        try clear c170b0
        try clear c170b1
        try clear c170b2
        try clear c171
        try clear c171b0
        try clear c171b1
        try clear c172
        try clear c172b0
        try clear c172b1
        try clear c172b2
        try clear c173
        try clear c173b0
        try clear c173b1
        try clear c174
        try clear c174b0
        try clear c174b1
        try clear c175
        try clear c175b0
        try clear c175b1
        try clear c175b2
        try clear c177
        try clear c178
        try clear c178b0
        try clear c178b1
        try clear c178b2
        try clear c179
        try clear c179b0
        try clear c179b1
        try clear c180
        try clear c180b0
        try clear c180b1
        try clear c181
        try clear c182
        try clear c182b0
        try clear c182b1
        try clear hx384_0
        try clear hx385_0
        try clear hx386_0
        try clear hx387_0
        try clear hx388_0
        try clear hx389_0
        try clear hx390_0
        try clear hx391_0
        try clear hx392_0
        try clear hx393_0
        try clear hx394_0
        try clear hx395_0
        try clear hx396_0
        try clear hx397_0
        try clear hx398_0
        try clear p2
        try clear p3
        try clear p38
        try clear p384
        try clear p385
        try clear p386
        try clear p387
        try clear p388
        try clear p389
        try clear p39
        try clear p390
        try clear p391
        try clear p392
        try clear p393
        try clear p394
        try clear p395
        try clear p396
        try clear p397
        try clear p398
        try clear p6
        try clear p64
        try clear q3
        try clear q38
        try clear q384
        try clear q385
        try clear q386
        try clear q387
        try clear q388
        try clear q389
        try clear q39
        try clear q390
        try clear q391
        try clear q392
        try clear q393
        try clear q394
        try clear q395
        try clear q396
        try clear q397
        try clear q398
        obtain ⟨kq, x504_160, rfl, HA, HJ160, HO_50, HO_52, HB⟩ := hcut
        cases kq with
        | zero => exact absurd HA.out (by simp [laws_FnRatesChanged.j7])
        | succ kj160 =>
         have H := HA.out
         clear HA
         simp only [laws_FnRatesChanged.j7] at H
         by_cases c190 : x504_160 = true
         ·subst c190
          have H1 : (some false) = some r := by rw [if_pos rfl] at H; exact H
          clear H
          have H := H1
          clear H1
          obtain rfl := Option.some.inj H
          exact absurd HT.out (by simp)
         ·replace c190 := Bool.eq_false_iff.mpr c190
          subst c190
          have H1 : (if t428 = true then ((impl_LineSamples.f kj160 t423 t424 1).bind fun bt445 => (if bt445.2 = true then ((laws_iSame.f kj160 bt445.1 t427).bind fun t449 => (some t449)) else (some false))) else (some true)) = some r := by rw [if_neg (show ¬ (false = true) by decide)] at H; exact H
          clear H
          have H := H1
          clear H1
          by_cases c191 : t428 = true
          ·subst c191
           have H1 : ((impl_LineSamples.f kj160 t423 t424 1).bind fun bt445 => (if bt445.2 = true then ((laws_iSame.f kj160 bt445.1 t427).bind fun t449 => (some t449)) else (some false))) = some r := by rw [if_pos rfl] at H; exact H
           clear H
           have H := H1
           clear H1
           replace H := Option.bind_eq_some_iff.mp H
           obtain ⟨⟨t445, t446⟩, A1920, H⟩ := H
           replace H : (if t446 = true then ((laws_iSame.f kj160 t445 t427).bind fun t449 => (some t449)) else (some false)) = some r := H
           have A192 := Aside0.mk A1920
           clear A1920
           by_cases c193 : t446 = true
           ·subst c193
            have H1 : ((laws_iSame.f kj160 t445 t427).bind fun t449 => (some t449)) = some r := by rw [if_pos rfl] at H; exact H
            clear H
            have H := H1
            clear H1
            replace H := Option.bind_eq_some_iff.mp H
            obtain ⟨t449, A1940, H⟩ := H
            replace H : (some t449) = some r := H
            have A194 := Aside0.mk A1940
            clear A1940
            obtain rfl := Option.some.inj H
            go_wp2_with (first | (go_at_call 12; (with_reducible refine (impl_LineSamples.calls kj160 _ _ t423 t424 1 t445 true _ ?side1 ?side2 A192.out).mono ?_); (case side1 => repeat (first | exact (Kd.R_reads' HO_50.out).2.2 | (with_reducible refine Kd.C_alloc ?_ _) | (with_reducible refine Kd.C_drewN ?_ _) | (with_reducible refine Kd.C_drew ?_))); (case side2 => exact (Kd.R_reads' HO_50.out).2.1); rintro e w195 ⟨v447, rfl, ho0, hb⟩; have n0_ := Aside0.mk (Kd.R_elder' (by (with_reducible repeat (first | apply Kd.R_alloc | apply Kd.R_drewN | apply Kd.R_drew)); exact HO_50.out) (Kd.R_base ho0) hb); have n1_ := Aside0.mk (Kd.R_elder' (by (with_reducible repeat (first | apply Kd.R_alloc | apply Kd.R_drewN | apply Kd.R_drew)); exact HO_52.out) (Kd.R_base ho0) hb); have n2_ := Aside0.mk (Kd.R_lower (Kd.R_new' (Kd.R_new' ho0 (Kd.R_lt (by (with_reducible repeat (first | apply Kd.R_alloc | apply Kd.R_drewN | apply Kd.R_drew)); exact HO_50.out))) (Kd.R_lt (by (with_reducible repeat (first | apply Kd.R_alloc | apply Kd.R_drewN | apply Kd.R_drew)); exact HO_52.out))) (below_size (by repeat (first | (with_reducible first | exact HB.out | apply below_alloc | apply pw_below_drewN | apply below_drew1) | exact HB.out)))); have n3_ := Aside0.mk (below_step (by repeat (first | (with_reducible first | exact HB.out | apply below_alloc | apply pw_below_drewN | apply below_drew1) | exact HB.out)) hb); clear HO_50; clear HO_52; clear HB; have HO_50 := n0_; have HO_52 := n1_; have HO448 := n2_; have HB := n3_; clear n0_ n1_ n2_ n3_; (try clear hb); (try clear hb2); (try clear hk); (try clear hi); (try clear ho0); obtain ⟨Ao196, co196, eo196⟩ := Kd.R_slice HO448.out; subst eo196; obtain ⟨Ao197, co197, eo197⟩ := Kd.R_slice HO_52.out; subst eo197) | (go_at_call 14; (with_reducible refine (laws_iSame.calls kj160 _ _ t445 _ _ t427 t449 _ ?side1 ?side2 ?side3 ?side4 A194.out).mono ?_); (case side1 => repeat (first | exact (Kd.R_reads' HO448.out).2.2 | (with_reducible refine Kd.C_alloc ?_ _) | (with_reducible refine Kd.C_drewN ?_ _) | (with_reducible refine Kd.C_drew ?_))); (case side2 => exact (Kd.R_reads' HO448.out).2.1); (case side3 => repeat (first | exact (Kd.R_reads' HO_52.out).2.2 | (with_reducible refine Kd.C_alloc ?_ _) | (with_reducible refine Kd.C_drewN ?_ _) | (with_reducible refine Kd.C_drew ?_))); (case side4 => exact (Kd.R_reads' HO_52.out).2.1); rintro e w' ⟨rfl, ⟨nd, rfl⟩⟩; (try first | exact ⟨rfl, _, World.drewN_drewN _ _ _⟩ | exact ⟨rfl, _, Eq.trans (World.drewN_drewN _ _ _) (congrArg (World.drewN _) (Nat.add_assoc _ _ _))⟩)))
            go_ret
            exact ⟨by first | rfl | (simp [errW_none, errW_some] <;> rfl) | (simp [*, errW_none, errW_some] <;> rfl), by repeat (first | (with_reducible first | exact HB.out | apply below_alloc | apply pw_below_drewN | apply below_drew1) | exact HB.out)⟩
           ·replace c193 := Bool.eq_false_iff.mpr c193
            subst c193
            have H1 : (some false) = some r := by rw [if_neg (show ¬ (false = true) by decide)] at H; exact H
            clear H
            have H := H1
            clear H1
            obtain rfl := Option.some.inj H
            exact absurd HT.out (by simp)
          ·replace c191 := Bool.eq_false_iff.mpr c191
           subst c191
           have H1 : (some true) = some r := by rw [if_neg (show ¬ (false = true) by decide)] at H; exact H
           clear H
           have H := H1
           clear H1
           obtain rfl := Option.some.inj H
           go_wp2
           go_ret
           exact ⟨by first | rfl | (simp [errW_none, errW_some] <;> rfl) | (simp [*, errW_none, errW_some] <;> rfl), by repeat (first | (with_reducible first | exact HB.out | apply below_alloc | apply pw_below_drewN | apply below_drew1) | exact HB.out)⟩

/-- THE ONE PURE STATEMENT of laws_FnRatesChanged: yours. -/
def laws_FnRatesChanged.Pure : Prop := ∀ (l0 : List Int) (l1 : List Int), l0.length ≤ maxLen → l0.length * 1 ≤ 140737488351232 → (∀ x ∈ l0, (Lit.int .u8 x).wf = true) → l1.length ≤ maxLen → l1.length * 1 ≤ 140737488351232 → (∀ x ∈ l1, (Lit.int .u8 x).wf = true) → ∃ k, laws_FnRatesChanged.f k l0 l1 = some true
theorem laws_FnRatesChanged.walk (P : laws_FnRatesChanged.Pure) (a0 : Option Addr) (len0 cap0 : Nat) (z0 : List Int) (a1 : Option Addr) (len1 cap1 : Nat) (z1 : List Int) (w : World) (w0 : (a0 = none ∧ len0 = 0 ∧ cap0 = 0 ∧ z0 = []) ∨ ∃ x, a0 = some x ∧ len0 ≤ cap0 ∧ cap0 ≤ maxLen ∧ z0.length = cap0 ∧ (∀ i, i < z0.length → w.cell? (x.add i) = some (.int .u8 (z0.getD i 0))) ∧ ∀ n ∈ z0, (Lit.int .u8 n).wf = true) (y0 : len0 * 1 ≤ 140737488351232) (w1 : (a1 = none ∧ len1 = 0 ∧ cap1 = 0 ∧ z1 = []) ∨ ∃ x, a1 = some x ∧ len1 ≤ cap1 ∧ cap1 ≤ maxLen ∧ z1.length = cap1 ∧ (∀ i, i < z1.length → w.cell? (x.add i) = some (.int .u8 (z1.getD i 0))) ∧ ∀ n ∈ z1, (Lit.int .u8 n).wf = true) (y1 : len1 * 1 ≤ 140737488351232) :
  Calls Try.prog 3 #[.slice a0 len0 cap0, .slice a1 len1 cap1] w fun e w' => e = .returned (.bool true) ∧ Below w.heap.size w w' := by
 obtain ⟨l0, rfl, hr0, hm0, hw0, hc0⟩ := ReadsInt.ofRowC w0
 obtain ⟨l1, rfl, hr1, hm1, hw1, hc1⟩ := ReadsInt.ofRowC w1
 obtain ⟨k, h⟩ := P l0 l1 hm0 y0 hw0 hm1 y1 hw1
 refine (laws_FnRatesChanged.calls k _ _ l0 _ _ l1 true w (Kd.C_of_reads (d := (0 : Int)) (h1 := fun _ => rfl) hr0) hc0 (Kd.C_of_reads (d := (0 : Int)) (h1 := fun _ => rfl) hr1) hc1 rfl h).mono ?_
 rintro e w' ⟨rfl, hd⟩
 exact ⟨rfl, hd⟩

end Go.Proofs.Ytjbpflfihdabhaa.PFnRatesChanged
