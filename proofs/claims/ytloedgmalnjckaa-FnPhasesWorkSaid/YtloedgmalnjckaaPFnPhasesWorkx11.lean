-- printed by a program of this claim's own
import Derived.Test.YtloedgmalnjckaaPFnPhasesWorkx0
import Derived.Test.YtloedgmalnjckaaPFnPhasesWorkx1
import Derived.Test.YtloedgmalnjckaaPFnPhasesWorkx2
import Derived.Test.YtloedgmalnjckaaPFnPhasesWorkx3
import Derived.Test.YtloedgmalnjckaaPFnPhasesWorkx4
import Derived.Test.YtloedgmalnjckaaPFnPhasesWorkx5
import Derived.Test.YtloedgmalnjckaaPFnPhasesWorkx6
import Derived.Test.YtloedgmalnjckaaPFnPhasesWorkx7
import Derived.Test.YtloedgmalnjckaaPFnPhasesWorkx8
import Derived.Test.YtloedgmalnjckaaPFnPhasesWorkx9
import Derived.Test.YtloedgmalnjckaaPFnPhasesWorkx10
namespace Go.Proofs.Ytloedgmalnjckaa.PFnPhasesWork
open Go.RowKit Go.Proofs.YtloedgmalnjckaaW.PrintWords Go.Proofs.YtloedgmalnjckaaW.PrintLast Go.Proofs.YtloedgmalnjckaaW.PrintMore Go.Proofs.Ytloedgmalnjckaa.Cuts
attribute [local go_sem] max2_int min2_int max_two min_two max_three min_three max_four min_four   -- for this text's walks alone
set_option linter.unusedVariables false
set_option linter.unusedSimpArgs false

/-! ### laws_FnPhasesWork: function 3 -/
mutual
def laws_FnPhasesWork.j1 : Nat → List Int → Option (Bool)
 | 0, _ => none
 | k + 1, x1 => (spec_DrawPhasesOf.f k x1).bind fun bt776 => ((impl_PhasesOf.f k bt776.1 bt776.2).bind fun bt780 => ((spec_PhasesOf.f k bt776.1 bt776.2).bind fun bt784 => ((spec_DrawJoinPhases.f k x1).bind fun t788 => ((impl_JoinPhases.f k t788).bind fun bt791 => ((spec_JoinPhases.f k t788).bind fun bt795 => (if (bt780.2 != bt784.2) = true then (some false) else ((laws_iRows.f k bt780.1 bt784.1).bind fun t799 => (if t799 = true then (if (bt791.2 != bt795.2) = true then (some false) else ((laws_iSame.f k bt791.1 bt795.1).bind fun t800 => (if t800 = true then (if bt780.2 = true then ((impl_JoinPhases.f k bt780.1).bind fun bt801 => (if bt801.2 = true then ((laws_iSame.f k bt801.1 bt776.1).bind fun t805 => (if t805 = true then (if (bt780.1.length : Int) = bt776.2 then (laws_FnPhasesWork.j2 k x1 t788 bt791.1 bt791.2) else (some false)) else (some false))) else (some false))) else (laws_FnPhasesWork.j2 k x1 t788 bt791.1 bt791.2)) else (some false)))) else (some false)))))))))
def laws_FnPhasesWork.j2 : Nat → List Int → List (List Int) → List Int → Bool → Option (Bool)
 | 0, _, _, _, _ => none
 | k + 1, x1, x39, x40, x41 => if x41 = true then ((impl_PhasesOf.f k x40 (x39.length : Int)).bind fun bt806 => (if bt806.2 = true then ((laws_iRows.f k bt806.1 x39).bind fun t810 => (if t810 = true then (laws_FnPhasesWork.j3 k x1) else (some false))) else (some false))) else (laws_FnPhasesWork.j3 k x1)
def laws_FnPhasesWork.j3 : Nat → List Int → Option (Bool)
 | 0, _ => none
 | k + 1, x1 => (spec_DrawTwoBands.f k x1).bind fun t811 => ((impl_TwoBands.f k t811).bind fun bt814 => ((spec_TwoBands.f k t811).bind fun bt821 => ((spec_DrawJoinBands.f k x1).bind fun bt828 => ((impl_JoinBands.f k bt828.1 bt828.2).bind fun bt834 => ((spec_JoinBands.f k bt828.1 bt828.2).bind fun bt838 => (if (bt814.2.2 != bt821.2.2) = true then (some false) else ((laws_iSame.f k bt814.1 bt821.1).bind fun t842 => (if t842 = true then ((laws_iSame.f k bt814.2.1 bt821.2.1).bind fun t843 => (if t843 = true then (if (bt834.2 != bt838.2) = true then (some false) else ((laws_iSame.f k bt834.1 bt838.1).bind fun t844 => (if t844 = true then (if bt814.2.2 = true then ((impl_JoinBands.f k bt814.1 bt814.2.1).bind fun bt845 => (if bt845.2 = true then ((laws_iSame.f k bt845.1 t811).bind fun t849 => (if t849 = true then (laws_FnPhasesWork.j4 k x1 bt828.1 bt828.2 bt834.1 bt834.2) else (some false))) else (some false))) else (laws_FnPhasesWork.j4 k x1 bt828.1 bt828.2 bt834.1 bt834.2)) else (some false)))) else (some false))) else (some false)))))))))
def laws_FnPhasesWork.j4 : Nat → List Int → List Int → List Int → List Int → Bool → Option (Bool)
 | 0, _, _, _, _, _ => none
 | k + 1, x1, x55, x56, x57, x58 => if x58 = true then ((impl_TwoBands.f k x57).bind fun bt850 => (if bt850.2.2 = true then ((laws_iSame.f k bt850.1 x55).bind fun t857 => (if t857 = true then ((laws_iSame.f k bt850.2.1 x56).bind fun t858 => (if t858 = true then (laws_FnPhasesWork.j5 k x1) else (some false))) else (some false))) else (some false))) else (laws_FnPhasesWork.j5 k x1)
def laws_FnPhasesWork.j5 : Nat → List Int → Option (Bool)
 | 0, _ => none
 | k + 1, x1 => (spec_DrawProductsDirect.f k x1).bind fun bt859 => ((impl_ProductsDirect.f k bt859.1 bt859.2.1 bt859.2.2.1 bt859.2.2.2).bind fun bt865 => ((spec_ProductsDirect.f k bt859.1 bt859.2.1 bt859.2.2.1 bt859.2.2.2).bind fun bt867 => ((impl_ProductsByPhases.f k bt859.1 bt859.2.1 bt859.2.2.1 bt859.2.2.2).bind fun bt869 => ((spec_ProductsByPhases.f k bt859.1 bt859.2.1 bt859.2.2.1 bt859.2.2.2).bind fun bt871 => ((spec_DrawDownFilter.f k x1).bind fun bt873 => ((impl_DownFilter.f k bt873.1 bt873.2.1 bt873.2.2).bind fun bt880 => ((spec_DownFilter.f k bt873.1 bt873.2.1 bt873.2.2).bind fun bt884 => ((spec_DrawUpFilter.f k x1).bind fun bt888 => ((impl_UpFilter.f k bt888.1 bt888.2.1 bt888.2.2).bind fun bt895 => ((spec_UpFilter.f k bt888.1 bt888.2.1 bt888.2.2).bind fun bt899 => (if (bt865.2 == bt867.2) = true then (if bt865.1 = bt867.1 then (if (bt869.2 == bt871.2) = true then (if bt869.1 = bt871.1 then (if (bt880.2 == bt884.2) = true then ((laws_iSame.f k bt880.1 bt884.1).bind fun t903 => (if t903 = true then (if (bt895.2 == bt899.2) = true then ((laws_iSame.f k bt895.1 bt899.1).bind fun t904 => (some t904)) else (some false)) else (some false))) else (some false)) else (some false)) else (some false)) else (some false)) else (some false))))))))))))
def laws_FnPhasesWork.j0 : Nat → List Int → List Int → List Int → Int → Int → List Int → Option (Bool)
 | 0, _, _, _, _, _, _ => none
 | k + 1, x1, x5, x6, x7, x8, x9 => if x7 = 1 then ((impl_DownFilter.f k x5 x6 x8).bind fun bt762 => ((impl_FilterShort.f k x5 x6).bind fun bt766 => (if bt762.2 = true then ((laws_iSame.f k bt762.1 x9).bind fun t770 => (if t770 = true then (if bt766.2 = true then ((impl_DropSamples.f k bt766.1 x8 0).bind fun bt771 => (if bt771.2 = true then ((laws_iSame.f k bt771.1 bt762.1).bind fun t775 => (if t775 = true then (laws_FnPhasesWork.j1 k x1) else (some false))) else (some false))) else (laws_FnPhasesWork.j1 k x1)) else (some false))) else (some false)))) else (laws_FnPhasesWork.j1 k x1)
end
def laws_FnPhasesWork.f (k : Nat) (l0 : List Int) (l1 : List Int) : Option (Bool) := (laws_big.f l0 l1).bind fun t719 => (if t719 = true then (some true) else ((spec_DrawUpFilterDown.f k l0).bind fun bt720 => ((impl_UpFilterDown.f k bt720.1 bt720.2.1 bt720.2.2.1 bt720.2.2.2).bind fun bt728 => ((spec_UpFilterDown.f k bt720.1 bt720.2.1 bt720.2.2.1 bt720.2.2.2).bind fun bt732 => ((impl_ByPhases.f k bt720.1 bt720.2.1 bt720.2.2.1 bt720.2.2.2).bind fun bt736 => ((spec_ByPhases.f k bt720.1 bt720.2.1 bt720.2.2.1 bt720.2.2.2).bind fun bt740 => (if (bt728.2 != bt732.2) = true then (some false) else ((laws_iSame.f k bt728.1 bt732.1).bind fun t744 => (if t744 = true then (if (bt736.2 != bt740.2) = true then (some false) else ((laws_iSame.f k bt736.1 bt740.1).bind fun t745 => (if t745 = true then (if (bt736.2 != bt728.2) = true then (some false) else ((laws_iSame.f k bt728.1 bt736.1).bind fun t746 => (if t746 = true then (if bt728.2 = true then ((impl_LengthAfter.f (bt720.2.1.length : Int) bt720.2.2.1 bt720.2.2.2).bind fun bt747 => ((impl_ProductsDirect.f k bt720.1 (bt720.2.1.length : Int) bt720.2.2.1 bt720.2.2.2).bind fun bt749 => ((impl_ProductsByPhases.f k bt720.1 (bt720.2.1.length : Int) bt720.2.2.1 bt720.2.2.2).bind fun bt751 => (if bt747.2 = true then (if (bt728.1.length : Int) = bt747.1 then (if bt749.2 = true then (if bt751.2 = true then (if bt751.1 > bt749.1 then (some false) else ((impl_UpFilter.f k bt720.1 bt720.2.1 bt720.2.2.1).bind fun bt753 => (if bt753.2 = true then ((impl_DropSamples.f k bt753.1 bt720.2.2.2 0).bind fun bt757 => (if bt757.2 = true then ((laws_iSame.f k bt757.1 bt728.1).bind fun t761 => (if t761 = true then (laws_FnPhasesWork.j0 k l1 bt720.1 bt720.2.1 bt720.2.2.1 bt720.2.2.2 bt728.1) else (some false))) else (some false))) else (laws_FnPhasesWork.j0 k l1 bt720.1 bt720.2.1 bt720.2.2.1 bt720.2.2.2 bt728.1)))) else (some false)) else (some false)) else (some false)) else (some false))))) else (laws_FnPhasesWork.j1 k l1)) else (some false)))) else (some false)))) else (some false))))))))))

set_option maxHeartbeats 80000000 in
set_option maxRecDepth 100000 in
theorem laws_FnPhasesWork.calls (k : Nat) (A0 : Option Addr) (c0 : Nat) (l0 : List Int) (A1 : Option Addr) (c1 : Nat) (l1 : List Int) (r : Bool) (w : World) (hr0 : Kd.C (Kd.int .u8) w A0 l0.length l0) (hc0 : l0.length ≤ c0) (hr1 : Kd.C (Kd.int .u8) w A1 l1.length l1) (hc1 : l1.length ≤ c1) (hT : r = true) (h : laws_FnPhasesWork.f k l0 l1 = some r) :
  Calls Try.prog 3 #[.slice A0 l0.length c0, .slice A1 l1.length c1] w fun e w' => e = .returned (.bool r) ∧ Below w.heap.size w w' := by
 have HR0 := Aside0.mk hr0
 have HC0 := Aside0.mk hc0
 clear hr0 hc0
 have HR1 := Aside0.mk hr1
 have HC1 := Aside0.mk hc1
 clear hr1 hc1
 have HT := Aside0.mk hT
 clear hT
 have hun : ∀ b_ : Bool, (Go.undef = Value.bool b_) = False := fun b_ => by simp [Go.undef]
 have HB := Aside0.mk (Below.refl w.heap.size w)
 have H : ((laws_big.f l0 l1).bind fun t719 => (if t719 = true then (some true) else ((spec_DrawUpFilterDown.f k l0).bind fun bt720 => ((impl_UpFilterDown.f k bt720.1 bt720.2.1 bt720.2.2.1 bt720.2.2.2).bind fun bt728 => ((spec_UpFilterDown.f k bt720.1 bt720.2.1 bt720.2.2.1 bt720.2.2.2).bind fun bt732 => ((impl_ByPhases.f k bt720.1 bt720.2.1 bt720.2.2.1 bt720.2.2.2).bind fun bt736 => ((spec_ByPhases.f k bt720.1 bt720.2.1 bt720.2.2.1 bt720.2.2.2).bind fun bt740 => (if (bt728.2 != bt732.2) = true then (some false) else ((laws_iSame.f k bt728.1 bt732.1).bind fun t744 => (if t744 = true then (if (bt736.2 != bt740.2) = true then (some false) else ((laws_iSame.f k bt736.1 bt740.1).bind fun t745 => (if t745 = true then (if (bt736.2 != bt728.2) = true then (some false) else ((laws_iSame.f k bt728.1 bt736.1).bind fun t746 => (if t746 = true then (if bt728.2 = true then ((impl_LengthAfter.f (bt720.2.1.length : Int) bt720.2.2.1 bt720.2.2.2).bind fun bt747 => ((impl_ProductsDirect.f k bt720.1 (bt720.2.1.length : Int) bt720.2.2.1 bt720.2.2.2).bind fun bt749 => ((impl_ProductsByPhases.f k bt720.1 (bt720.2.1.length : Int) bt720.2.2.1 bt720.2.2.2).bind fun bt751 => (if bt747.2 = true then (if (bt728.1.length : Int) = bt747.1 then (if bt749.2 = true then (if bt751.2 = true then (if bt751.1 > bt749.1 then (some false) else ((impl_UpFilter.f k bt720.1 bt720.2.1 bt720.2.2.1).bind fun bt753 => (if bt753.2 = true then ((impl_DropSamples.f k bt753.1 bt720.2.2.2 0).bind fun bt757 => (if bt757.2 = true then ((laws_iSame.f k bt757.1 bt728.1).bind fun t761 => (if t761 = true then (laws_FnPhasesWork.j0 k l1 bt720.1 bt720.2.1 bt720.2.2.1 bt720.2.2.2 bt728.1) else (some false))) else (some false))) else (laws_FnPhasesWork.j0 k l1 bt720.1 bt720.2.1 bt720.2.2.1 bt720.2.2.2 bt728.1)))) else (some false)) else (some false)) else (some false)) else (some false))))) else (laws_FnPhasesWork.j1 k l1)) else (some false)))) else (some false)))) else (some false))))))))))) = some r := h
 clear h
 replace H := Option.bind_eq_some_iff.mp H
 obtain ⟨t719, A30, H⟩ := H
 (try dsimp only at H)
 have A3 := Aside0.mk A30
 clear A30
 by_cases c4 : t719 = true
 ·subst c4
  rw [if_pos rfl] at H
  obtain rfl := Option.some.inj H
  go_enter Try.func3, Try.ntmps3
  go_wp2_with (first | ((with_reducible refine gate_callee (f := 5) rfl ?_); refine goesLS_ (some 94) Try.func5 #[.slice A0 l0.length c0, .slice A1 l1.length c1] ?_; (with_reducible refine (laws_big.calls _ _ l0 _ _ l1 true _ ?side1 ?side2 ?side3 ?side4 A3.out).mono ?_); (case side1 => repeat (first | exact HR0.out | (with_reducible refine Kd.C_alloc ?_ _) | (with_reducible refine Kd.C_drewN ?_ _) | (with_reducible refine Kd.C_drew ?_))); (case side2 => exact HC0.out); (case side3 => repeat (first | exact HR1.out | (with_reducible refine Kd.C_alloc ?_ _) | (with_reducible refine Kd.C_drewN ?_ _) | (with_reducible refine Kd.C_drew ?_))); (case side4 => exact HC1.out); rintro e w' ⟨rfl, ⟨nd, rfl⟩⟩; refine ⟨_, rfl, ?_⟩))
  go_ret
  exact ⟨by first | rfl | (simp [errW_none, errW_some] <;> rfl) | (simp [*, errW_none, errW_some] <;> rfl), bl0 HB.out⟩
 ·replace c4 := Bool.eq_false_iff.mpr c4
  subst c4
  rw [if_neg (show ¬ (false = true) by decide)] at H
  replace H := Option.bind_eq_some_iff.mp H
  obtain ⟨⟨t720, t721, t722, t723⟩, A50, H⟩ := H
  (try dsimp only at H)
  have A5 := Aside0.mk A50
  clear A50
  replace H := Option.bind_eq_some_iff.mp H
  obtain ⟨⟨t728, t729⟩, A60, H⟩ := H
  (try dsimp only at H)
  have A6 := Aside0.mk A60
  clear A60
  replace H := Option.bind_eq_some_iff.mp H
  obtain ⟨⟨t732, t733⟩, A70, H⟩ := H
  (try dsimp only at H)
  have A7 := Aside0.mk A70
  clear A70
  replace H := Option.bind_eq_some_iff.mp H
  obtain ⟨⟨t736, t737⟩, A80, H⟩ := H
  (try dsimp only at H)
  have A8 := Aside0.mk A80
  clear A80
  replace H := Option.bind_eq_some_iff.mp H
  obtain ⟨⟨t740, t741⟩, A90, H⟩ := H
  (try dsimp only at H)
  have A9 := Aside0.mk A90
  clear A90
  by_cases c10 : (t729 != t733) = true
  ·rw [if_pos c10] at H
   have c10b0 : (t729 != t733) = true := c10
   (try (have c10b1 : decide (t729 = t733) = false := by simpa using c10))
   (try (have c10b2 : (t729 == t733) = false := by simpa using c10))
   (try (have c10b3 : ¬ (t729 = t733) := by simpa using c10))
   clear c10
   obtain rfl := Option.some.inj H
   exact absurd HT.out (by simp)
  ·rw [if_neg c10] at H
   have c10b0 : (t729 != t733) = false := by simpa using c10
   (try (have c10b1 : decide (t729 = t733) = true := by simpa using c10))
   (try (have c10b2 : (t729 == t733) = true := by simpa using c10))
   clear c10
   replace H := Option.bind_eq_some_iff.mp H
   obtain ⟨t744, A110, H⟩ := H
   (try dsimp only at H)
   have A11 := Aside0.mk A110
   clear A110
   by_cases c12 : t744 = true
   ·subst c12
    rw [if_pos rfl] at H
    by_cases c13 : (t737 != t741) = true
    ·rw [if_pos c13] at H
     have c13b0 : (t737 != t741) = true := c13
     (try (have c13b1 : decide (t737 = t741) = false := by simpa using c13))
     (try (have c13b2 : (t737 == t741) = false := by simpa using c13))
     (try (have c13b3 : ¬ (t737 = t741) := by simpa using c13))
     clear c13
     obtain rfl := Option.some.inj H
     exact absurd HT.out (by simp)
    ·rw [if_neg c13] at H
     have c13b0 : (t737 != t741) = false := by simpa using c13
     (try (have c13b1 : decide (t737 = t741) = true := by simpa using c13))
     (try (have c13b2 : (t737 == t741) = true := by simpa using c13))
     clear c13
     replace H := Option.bind_eq_some_iff.mp H
     obtain ⟨t745, A140, H⟩ := H
     (try dsimp only at H)
     have A14 := Aside0.mk A140
     clear A140
     by_cases c15 : t745 = true
     ·subst c15
      rw [if_pos rfl] at H
      by_cases c16 : (t737 != t729) = true
      ·rw [if_pos c16] at H
       have c16b0 : (t737 != t729) = true := c16
       (try (have c16b1 : decide (t737 = t729) = false := by simpa using c16))
       (try (have c16b2 : (t737 == t729) = false := by simpa using c16))
       (try (have c16b3 : ¬ (t737 = t729) := by simpa using c16))
       clear c16
       obtain rfl := Option.some.inj H
       exact absurd HT.out (by simp)
      ·rw [if_neg c16] at H
       have c16b0 : (t737 != t729) = false := by simpa using c16
       (try (have c16b1 : decide (t737 = t729) = true := by simpa using c16))
       (try (have c16b2 : (t737 == t729) = true := by simpa using c16))
       clear c16
       replace H := Option.bind_eq_some_iff.mp H
       obtain ⟨t746, A170, H⟩ := H
       (try dsimp only at H)
       have A17 := Aside0.mk A170
       clear A170
       by_cases c18 : t746 = true
       ·subst c18
        rw [if_pos rfl] at H
        have HC19 := Aside0.mk H
        clear H
        go_enter Try.func3, Try.ntmps3
        go_upto_if 165 with (first | ((with_reducible refine gate_callee (f := 5) rfl ?_); refine goesLS_ (some 94) Try.func5 #[.slice A0 l0.length c0, .slice A1 l1.length c1] ?_; (with_reducible refine (laws_big.calls _ _ l0 _ _ l1 false _ ?side1 ?side2 ?side3 ?side4 A3.out).mono ?_); (case side1 => repeat (first | exact HR0.out | (with_reducible refine Kd.C_alloc ?_ _) | (with_reducible refine Kd.C_drewN ?_ _) | (with_reducible refine Kd.C_drew ?_))); (case side2 => exact HC0.out); (case side3 => repeat (first | exact HR1.out | (with_reducible refine Kd.C_alloc ?_ _) | (with_reducible refine Kd.C_drewN ?_ _) | (with_reducible refine Kd.C_drew ?_))); (case side4 => exact HC1.out); rintro e w' ⟨rfl, ⟨nd, rfl⟩⟩; refine ⟨_, rfl, ?_⟩) | ((with_reducible refine gate_callee (f := 6) rfl ?_); refine goesLS_ (some 97) Try.func6 #[.slice A0 l0.length c0] ?_; (with_reducible refine (spec_DrawUpFilterDown.calls k _ _ l0 t720 t721 t722 t723 _ ?side1 ?side2 A5.out).mono ?_); (case side1 => repeat (first | exact HR0.out | (with_reducible refine Kd.C_alloc ?_ _) | (with_reducible refine Kd.C_drewN ?_ _) | (with_reducible refine Kd.C_drew ?_))); (case side2 => exact HC0.out); rintro e w20 ⟨v724, v726, rfl, ho0, ho1, hb⟩; refine ⟨_, rfl, ?_⟩; have n0_ := Aside0.mk (Kd.R_lower ho0 (below_size (bl0 HB.out))); have n1_ := Aside0.mk (Kd.R_lower ho1 (below_size (bl0 HB.out))); have n2_ := Aside0.mk (below_step (bl0 HB.out) hb); clear HB; have HO725 := n0_; have HO727 := n1_; have HB := n2_; clear n0_ n1_ n2_; (try clear hb); (try clear hb2); (try clear hk); (try clear hi); (try clear ho0); (try clear ho1); obtain ⟨Ao21, co21, eo21⟩ := Kd.R_slice HO725.out; subst eo21; obtain ⟨Ao22, co22, eo22⟩ := Kd.R_slice HO727.out; subst eo22) | ((with_reducible refine gate_callee (f := 7) rfl ?_); refine goesLS_ (some 107) Try.func7 #[.slice Ao21 t720.length co21, .slice Ao22 t721.length co22, .int .i64 t722, .int .i64 t723] ?_; (with_reducible refine (impl_UpFilterDown.calls k _ _ t720 _ _ t721 t722 t723 t728 t729 _ ?side1 ?side2 ?side3 ?side4 A6.out).mono ?_); (case side1 => repeat (first | exact (Kd.R_reads' HO725.out).2.2 | (with_reducible refine Kd.C_alloc ?_ _) | (with_reducible refine Kd.C_drewN ?_ _) | (with_reducible refine Kd.C_drew ?_))); (case side2 => exact (Kd.R_reads' HO725.out).2.1); (case side3 => repeat (first | exact (Kd.R_reads' HO727.out).2.2 | (with_reducible refine Kd.C_alloc ?_ _) | (with_reducible refine Kd.C_drewN ?_ _) | (with_reducible refine Kd.C_drew ?_))); (case side4 => exact (Kd.R_reads' HO727.out).2.1); rintro e w23 ⟨v730, rfl, ho0, hb⟩; refine ⟨_, rfl, ?_⟩; have n0_ := Aside0.mk (Kd.R_elder' (kr HO725.out) (Kd.R_base ho0) hb); have n1_ := Aside0.mk (Kd.R_elder' (kr HO727.out) (Kd.R_base ho0) hb); have n2_ := Aside0.mk (Kd.R_lower (Kd.R_new' (Kd.R_new' ho0 (Kd.R_lt (kr HO725.out))) (Kd.R_lt (kr HO727.out))) (below_size (bl0 HB.out))); have n3_ := Aside0.mk (below_step (bl0 HB.out) hb); clear HO725; clear HO727; clear HB; have HO725 := n0_; have HO727 := n1_; have HO731 := n2_; have HB := n3_; clear n0_ n1_ n2_ n3_; (try clear hb); (try clear hb2); (try clear hk); (try clear hi); (try clear ho0)) | ((with_reducible refine gate_callee (f := 8) rfl ?_); refine goesLS_ (some 115) Try.func8 #[.slice Ao21 t720.length co21, .slice Ao22 t721.length co22, .int .i64 t722, .int .i64 t723] ?_; (with_reducible refine (spec_UpFilterDown.calls k _ _ t720 _ _ t721 t722 t723 t732 t733 _ ?side1 ?side2 ?side3 ?side4 A7.out).mono ?_); (case side1 => repeat (first | exact (Kd.R_reads' HO725.out).2.2 | (with_reducible refine Kd.C_alloc ?_ _) | (with_reducible refine Kd.C_drewN ?_ _) | (with_reducible refine Kd.C_drew ?_))); (case side2 => exact (Kd.R_reads' HO725.out).2.1); (case side3 => repeat (first | exact (Kd.R_reads' HO727.out).2.2 | (with_reducible refine Kd.C_alloc ?_ _) | (with_reducible refine Kd.C_drewN ?_ _) | (with_reducible refine Kd.C_drew ?_))); (case side4 => exact (Kd.R_reads' HO727.out).2.1); rintro e w24 ⟨v734, rfl, ho0, hb⟩; refine ⟨_, rfl, ?_⟩; have n0_ := Aside0.mk (Kd.R_elder' (kr HO725.out) (Kd.R_base ho0) hb); have n1_ := Aside0.mk (Kd.R_elder' (kr HO727.out) (Kd.R_base ho0) hb); have n2_ := Aside0.mk (Kd.R_elder' (kr HO731.out) (Kd.R_base ho0) hb); have n3_ := Aside0.mk (Kd.R_lower (Kd.R_new' (Kd.R_new' (Kd.R_new' ho0 (Kd.R_lt (kr HO725.out))) (Kd.R_lt (kr HO727.out))) (Kd.R_lt (kr HO731.out))) (below_size (bl0 HB.out))); have n4_ := Aside0.mk (below_step (bl0 HB.out) hb); clear HO725; clear HO727; clear HO731; clear HB; have HO725 := n0_; have HO727 := n1_; have HO731 := n2_; have HO735 := n3_; have HB := n4_; clear n0_ n1_ n2_ n3_ n4_; (try clear hb); (try clear hb2); (try clear hk); (try clear hi); (try clear ho0)) | ((with_reducible refine gate_callee (f := 9) rfl ?_); refine goesLS_ (some 123) Try.func9 #[.slice Ao21 t720.length co21, .slice Ao22 t721.length co22, .int .i64 t722, .int .i64 t723] ?_; (with_reducible refine (impl_ByPhases.calls k _ _ t720 _ _ t721 t722 t723 t736 t737 _ ?side1 ?side2 ?side3 ?side4 A8.out).mono ?_); (case side1 => repeat (first | exact (Kd.R_reads' HO725.out).2.2 | (with_reducible refine Kd.C_alloc ?_ _) | (with_reducible refine Kd.C_drewN ?_ _) | (with_reducible refine Kd.C_drew ?_))); (case side2 => exact (Kd.R_reads' HO725.out).2.1); (case side3 => repeat (first | exact (Kd.R_reads' HO727.out).2.2 | (with_reducible refine Kd.C_alloc ?_ _) | (with_reducible refine Kd.C_drewN ?_ _) | (with_reducible refine Kd.C_drew ?_))); (case side4 => exact (Kd.R_reads' HO727.out).2.1); rintro e w25 ⟨v738, rfl, ho0, hb⟩; refine ⟨_, rfl, ?_⟩; have n0_ := Aside0.mk (Kd.R_elder' (kr HO725.out) (Kd.R_base ho0) hb); have n1_ := Aside0.mk (Kd.R_elder' (kr HO727.out) (Kd.R_base ho0) hb); have n2_ := Aside0.mk (Kd.R_elder' (kr HO731.out) (Kd.R_base ho0) hb); have n3_ := Aside0.mk (Kd.R_elder' (kr HO735.out) (Kd.R_base ho0) hb); have n4_ := Aside0.mk (Kd.R_lower (Kd.R_new' (Kd.R_new' (Kd.R_new' (Kd.R_new' ho0 (Kd.R_lt (kr HO725.out))) (Kd.R_lt (kr HO727.out))) (Kd.R_lt (kr HO731.out))) (Kd.R_lt (kr HO735.out))) (below_size (bl0 HB.out))); have n5_ := Aside0.mk (below_step (bl0 HB.out) hb); clear HO725; clear HO727; clear HO731; clear HO735; clear HB; have HO725 := n0_; have HO727 := n1_; have HO731 := n2_; have HO735 := n3_; have HO739 := n4_; have HB := n5_; clear n0_ n1_ n2_ n3_ n4_ n5_; (try clear hb); (try clear hb2); (try clear hk); (try clear hi); (try clear ho0)) | ((with_reducible refine gate_callee (f := 10) rfl ?_); refine goesLS_ (some 131) Try.func10 #[.slice Ao21 t720.length co21, .slice Ao22 t721.length co22, .int .i64 t722, .int .i64 t723] ?_; (with_reducible refine (spec_ByPhases.calls k _ _ t720 _ _ t721 t722 t723 t740 t741 _ ?side1 ?side2 ?side3 ?side4 A9.out).mono ?_); (case side1 => repeat (first | exact (Kd.R_reads' HO725.out).2.2 | (with_reducible refine Kd.C_alloc ?_ _) | (with_reducible refine Kd.C_drewN ?_ _) | (with_reducible refine Kd.C_drew ?_))); (case side2 => exact (Kd.R_reads' HO725.out).2.1); (case side3 => repeat (first | exact (Kd.R_reads' HO727.out).2.2 | (with_reducible refine Kd.C_alloc ?_ _) | (with_reducible refine Kd.C_drewN ?_ _) | (with_reducible refine Kd.C_drew ?_))); (case side4 => exact (Kd.R_reads' HO727.out).2.1); rintro e w26 ⟨v742, rfl, ho0, hb⟩; refine ⟨_, rfl, ?_⟩; have n0_ := Aside0.mk (Kd.R_elder' (kr HO725.out) (Kd.R_base ho0) hb); have n1_ := Aside0.mk (Kd.R_elder' (kr HO727.out) (Kd.R_base ho0) hb); have n2_ := Aside0.mk (Kd.R_elder' (kr HO731.out) (Kd.R_base ho0) hb); have n3_ := Aside0.mk (Kd.R_elder' (kr HO735.out) (Kd.R_base ho0) hb); have n4_ := Aside0.mk (Kd.R_elder' (kr HO739.out) (Kd.R_base ho0) hb); have n5_ := Aside0.mk (Kd.R_lower (Kd.R_new' (Kd.R_new' (Kd.R_new' (Kd.R_new' (Kd.R_new' ho0 (Kd.R_lt (kr HO725.out))) (Kd.R_lt (kr HO727.out))) (Kd.R_lt (kr HO731.out))) (Kd.R_lt (kr HO735.out))) (Kd.R_lt (kr HO739.out))) (below_size (bl0 HB.out))); have n6_ := Aside0.mk (below_step (bl0 HB.out) hb); clear HO725; clear HO727; clear HO731; clear HO735; clear HO739; clear HB; have HO725 := n0_; have HO727 := n1_; have HO731 := n2_; have HO735 := n3_; have HO739 := n4_; have HO743 := n5_; have HB := n6_; clear n0_ n1_ n2_ n3_ n4_ n5_ n6_; (try clear hb); (try clear hb2); (try clear hk); (try clear hi); (try clear ho0); obtain ⟨Ao27, co27, eo27⟩ := Kd.R_slice HO731.out; subst eo27; obtain ⟨Ao28, co28, eo28⟩ := Kd.R_slice HO735.out; subst eo28) | (go_at_call 11; (with_reducible refine (laws_iSame.calls k _ _ t728 _ _ t732 true _ ?side1 ?side2 ?side3 ?side4 A11.out).mono ?_); (case side1 => repeat (first | exact (Kd.R_reads' HO731.out).2.2 | (with_reducible refine Kd.C_alloc ?_ _) | (with_reducible refine Kd.C_drewN ?_ _) | (with_reducible refine Kd.C_drew ?_))); (case side2 => exact (Kd.R_reads' HO731.out).2.1); (case side3 => repeat (first | exact (Kd.R_reads' HO735.out).2.2 | (with_reducible refine Kd.C_alloc ?_ _) | (with_reducible refine Kd.C_drewN ?_ _) | (with_reducible refine Kd.C_drew ?_))); (case side4 => exact (Kd.R_reads' HO735.out).2.1); rintro e w' ⟨rfl, ⟨nd, rfl⟩⟩; obtain ⟨Ao29, co29, eo29⟩ := Kd.R_slice HO739.out; subst eo29; obtain ⟨Ao30, co30, eo30⟩ := Kd.R_slice HO743.out; subst eo30) | (go_at_call 11; (with_reducible refine (laws_iSame.calls k _ _ t736 _ _ t740 true _ ?side1 ?side2 ?side3 ?side4 A14.out).mono ?_); (case side1 => repeat (first | exact (Kd.R_reads' HO739.out).2.2 | (with_reducible refine Kd.C_alloc ?_ _) | (with_reducible refine Kd.C_drewN ?_ _) | (with_reducible refine Kd.C_drew ?_))); (case side2 => exact (Kd.R_reads' HO739.out).2.1); (case side3 => repeat (first | exact (Kd.R_reads' HO743.out).2.2 | (with_reducible refine Kd.C_alloc ?_ _) | (with_reducible refine Kd.C_drewN ?_ _) | (with_reducible refine Kd.C_drew ?_))); (case side4 => exact (Kd.R_reads' HO743.out).2.1); rintro e w' ⟨rfl, ⟨nd, rfl⟩⟩) | (go_at_call 11; (with_reducible refine (laws_iSame.calls k _ _ t728 _ _ t736 true _ ?side1 ?side2 ?side3 ?side4 A17.out).mono ?_); (case side1 => repeat (first | exact (Kd.R_reads' HO731.out).2.2 | (with_reducible refine Kd.C_alloc ?_ _) | (with_reducible refine Kd.C_drewN ?_ _) | (with_reducible refine Kd.C_drew ?_))); (case side2 => exact (Kd.R_reads' HO731.out).2.1); (case side3 => repeat (first | exact (Kd.R_reads' HO739.out).2.2 | (with_reducible refine Kd.C_alloc ?_ _) | (with_reducible refine Kd.C_drewN ?_ _) | (with_reducible refine Kd.C_drew ?_))); (case side4 => exact (Kd.R_reads' HO739.out).2.1); rintro e w' ⟨rfl, ⟨nd, rfl⟩⟩))
        (try simp only [Act.put, List.setIfInBounds_toArray, List.set_cons_zero, List.set_cons_succ])
        refine cutF [ff, ff, ff, ff, tt, ff, ff, ff, ff, ff, ff, ff, ff, ff, ff, ff, ff, tt, tt, tt, tt, tt, tt, tt, tt, tt, tt, tt, tt, tt, tt, tt, tt, ff, ff, ff, ff, ff, ff, ff, ff, ff, ff, ff, ff, ff, ff, ff, ff, ff, ff, ff, ff, ff, ff, ff, ff, ff, ff, ff, ff, ff, ff, ff, ff, ff, ff, ff, ff, ff, ff, ff, ff, ff, ff, ff, ff, ff, ff, ff, ff, ff, ff, ff, ff, ff, ff, ff, ff, ff, ff, ff, tt, tt, tt, tt, tt, tt, tt, tt, tt, tt, tt, tt, tt, tt, tt, tt, tt, tt, tt, tt, tt, tt, tt, tt, tt, tt, tt, tt, tt, tt, tt, tt, tt, tt, tt, tt, tt, tt, tt, tt, tt, tt, tt, tt, tt, tt, tt, tt, tt, tt, tt, tt, tt, tt, tt, tt, tt, tt, tt, tt, tt, tt, tt, tt, tt, tt, tt, tt, tt, tt, tt, tt, tt, tt, tt, tt, tt, tt, tt, tt, tt, tt, tt, tt, tt, tt, tt, tt, tt, tt, tt, tt, tt, tt, tt, tt, tt, tt, tt, tt, tt, tt, tt, tt, tt, tt, tt, tt, tt, tt, tt, tt, tt, tt, tt, tt, tt, tt, tt, tt, tt, tt, tt, tt, tt, tt, tt, tt, tt, tt, tt, tt, tt, tt, tt, tt, tt, tt, tt, tt, tt, tt, tt, tt, tt, tt, tt, tt, tt, tt, tt, tt, tt, tt, tt, tt, tt, tt, tt, tt, tt, tt, tt, tt, tt, tt, tt, tt, tt, tt, tt, tt, tt, tt, tt, tt, tt, tt, tt, tt, tt, ff, ff, ff, ff, ff, ff, ff, ff, ff, ff, ff, ff, ff, ff, ff, ff, ff, ff, ff, ff, ff, ff, ff, ff, ff, ff, ff, ff, ff, ff, ff, ff, ff, ff, ff, ff, ff, ff, ff, ff, ff, ff, ff, ff, ff, ff, ff, ff, ff, ff, ff, ff, ff, ff, ff, ff, ff, ff, ff, ff, ff, ff, ff, ff, ff, ff, ff, ff, ff, ff, ff, ff, ff, ff, ff, ff, ff, ff, ff, ff, ff, ff, ff, ff, ff, ff, ff, ff, ff, ff, ff, ff, ff, ff, ff, ff, ff, ff, ff, ff, ff, ff, ff, ff, ff, ff, ff, ff, ff, ff, ff, ff, ff, ff, ff, ff, ff, ff, ff, ff, ff, ff, ff, ff, ff, ff, ff, ff, ff, ff, ff, ff, ff, ff, ff, ff, ff, ff, ff, ff, ff, ff, ff, ff, ff, ff, ff, ff, ff, ff, ff, ff, ff, ff, ff, ff, ff, ff, ff, ff, ff, ff, ff, ff, ff, ff, ff, ff, ff, ff, ff, ff, ff, ff, ff, ff, ff, ff, ff, ff, ff, ff, ff, ff, ff, ff, ff, ff, ff, ff, ff, ff, ff, ff, ff, ff, ff, ff, ff, ff, ff, ff, ff, ff, ff, ff, ff, ff, ff, ff, ff, ff, ff, ff, ff, ff, ff, ff, ff, ff, ff, ff, ff, ff, ff, ff, ff, ff, ff, ff, ff, ff, ff, ff, ff, ff, ff, ff, ff, ff, ff, ff, ff, ff, ff, ff, ff, ff, ff, ff, ff, ff, ff, ff, ff, ff, ff, ff, ff, ff, ff, ff, ff, ff, ff, ff, ff, ff, ff, ff, ff, ff, ff, ff, ff, ff, ff, ff, ff, ff, ff, ff, ff, ff, ff, ff, ff, ff, ff, ff, ff, ff, ff, ff, ff] (fun f_ wc => ∃ (kq : Nat), Aside0 (laws_FnPhasesWork.j1 kq l1 = some r) ∧ Aside0 (kq ≤ k) ∧ Aside0 (Below w.heap.size w wc)) ?first_j1 ?rest_j1
        case first_j1 => as_aux_lemma =>
         intro J_ K_ hJ_j1 hK_
         have H := HC19.out
         clear HC19
         by_cases c31 : t729 = true
         ·subst c31
          rw [if_pos rfl] at H
          replace H := Option.bind_eq_some_iff.mp H
          obtain ⟨⟨t747, t748⟩, A320, H⟩ := H
          (try dsimp only at H)
          have A32 := Aside0.mk A320
          clear A320
          replace H := Option.bind_eq_some_iff.mp H
          obtain ⟨⟨t749, t750⟩, A330, H⟩ := H
          (try dsimp only at H)
          have A33 := Aside0.mk A330
          clear A330
          replace H := Option.bind_eq_some_iff.mp H
          obtain ⟨⟨t751, t752⟩, A340, H⟩ := H
          (try dsimp only at H)
          have A34 := Aside0.mk A340
          clear A340
          by_cases c35 : t748 = true
          ·subst c35
           rw [if_pos rfl] at H
           by_cases c36 : (t728.length : Int) = t747
           ·rw [if_pos c36] at H
            have c36b0 : ((t728.length : Int) == t747) = true := beq_iff_eq.mpr c36
            have c36b1 : ((t728.length : Int) != t747) = false := bne_eq_false_iff_eq.mpr c36
            clear c36
            (first | rw [c36b0] | (simp only [i64_w, i32_w]; rw [c36b0]) | skip)
            by_cases c37 : t750 = true
            ·subst c37
             rw [if_pos rfl] at H
             by_cases c38 : t752 = true
             ·subst c38
              rw [if_pos rfl] at H
              by_cases c39 : t751 > t749
              ·rw [if_pos c39] at H
               have c39b0 : decide (t749 < t751) = true := decide_eq_true c39
               clear c39
               obtain rfl := Option.some.inj H
               exact absurd HT.out (by simp)
              ·rw [if_neg c39] at H
               have c39b0 : decide (t749 < t751) = false := decide_eq_false c39
               clear c39
               replace H := Option.bind_eq_some_iff.mp H
               obtain ⟨⟨t753, t754⟩, A400, H⟩ := H
               (try dsimp only at H)
               have A40 := Aside0.mk A400
               clear A400
               have HC41 := Aside0.mk H
               clear H
               go_upto_if 220 with (first | ((with_reducible refine gate_callee (f := 12) rfl ?_); refine goesLS_ (some 171) Try.func12 #[.int .i64 (t721.length : Int), .int .i64 t722, .int .i64 t723] ?_; (with_reducible refine (impl_LengthAfter.calls (t721.length : Int) t722 t723 t747 true _ A32.out).mono ?_); rintro e w' ⟨rfl, ⟨nd, rfl⟩⟩; refine ⟨_, rfl, ?_⟩) | ((with_reducible refine gate_callee (f := 13) rfl ?_); refine goesLS_ (some 180) Try.func13 #[.slice Ao21 t720.length co21, .int .i64 (t721.length : Int), .int .i64 t722, .int .i64 t723] ?_; (with_reducible refine (impl_ProductsDirect.calls k _ _ t720 (t721.length : Int) t722 t723 t749 true _ ?side1 ?side2 A33.out).mono ?_); (case side1 => repeat (first | exact (Kd.R_reads' HO725.out).2.2 | (with_reducible refine Kd.C_alloc ?_ _) | (with_reducible refine Kd.C_drewN ?_ _) | (with_reducible refine Kd.C_drew ?_))); (case side2 => exact (Kd.R_reads' HO725.out).2.1); rintro e w42 ⟨rfl, hb⟩; refine ⟨_, rfl, ?_⟩; have n0_ := Aside0.mk (Kd.R_below (kr HO725.out) hb); have n1_ := Aside0.mk (Kd.R_below (kr HO727.out) hb); have n2_ := Aside0.mk (Kd.R_below (kr HO731.out) hb); have n3_ := Aside0.mk (Kd.R_below (kr HO735.out) hb); have n4_ := Aside0.mk (Kd.R_below (kr HO739.out) hb); have n5_ := Aside0.mk (Kd.R_below (kr HO743.out) hb); have n6_ := Aside0.mk (below_step (bl0 HB.out) hb); clear HO725; clear HO727; clear HO731; clear HO735; clear HO739; clear HO743; clear HB; have HO725 := n0_; have HO727 := n1_; have HO731 := n2_; have HO735 := n3_; have HO739 := n4_; have HO743 := n5_; have HB := n6_; clear n0_ n1_ n2_ n3_ n4_ n5_ n6_; (try clear hb); (try clear hb2); (try clear hk); (try clear hi)) | ((with_reducible refine gate_callee (f := 14) rfl ?_); refine goesLS_ (some 189) Try.func14 #[.slice Ao21 t720.length co21, .int .i64 (t721.length : Int), .int .i64 t722, .int .i64 t723] ?_; (with_reducible refine (impl_ProductsByPhases.calls k _ _ t720 (t721.length : Int) t722 t723 t751 true _ ?side1 ?side2 A34.out).mono ?_); (case side1 => repeat (first | exact (Kd.R_reads' HO725.out).2.2 | (with_reducible refine Kd.C_alloc ?_ _) | (with_reducible refine Kd.C_drewN ?_ _) | (with_reducible refine Kd.C_drew ?_))); (case side2 => exact (Kd.R_reads' HO725.out).2.1); rintro e w43 ⟨rfl, hb⟩; refine ⟨_, rfl, ?_⟩; have n0_ := Aside0.mk (Kd.R_below (kr HO725.out) hb); have n1_ := Aside0.mk (Kd.R_below (kr HO727.out) hb); have n2_ := Aside0.mk (Kd.R_below (kr HO731.out) hb); have n3_ := Aside0.mk (Kd.R_below (kr HO735.out) hb); have n4_ := Aside0.mk (Kd.R_below (kr HO739.out) hb); have n5_ := Aside0.mk (Kd.R_below (kr HO743.out) hb); have n6_ := Aside0.mk (below_step (bl0 HB.out) hb); clear HO725; clear HO727; clear HO731; clear HO735; clear HO739; clear HO743; clear HB; have HO725 := n0_; have HO727 := n1_; have HO731 := n2_; have HO735 := n3_; have HO739 := n4_; have HO743 := n5_; have HB := n6_; clear n0_ n1_ n2_ n3_ n4_ n5_ n6_; (try clear hb); (try clear hb2); (try clear hk); (try clear hi)) | ((with_reducible refine gate_callee (f := 15) rfl ?_); refine goesLS_ (some 217) Try.func15 #[.slice Ao21 t720.length co21, .slice Ao22 t721.length co22, .int .i64 t722] ?_; (with_reducible refine (impl_UpFilter.calls k _ _ t720 _ _ t721 t722 t753 t754 _ ?side1 ?side2 ?side3 ?side4 A40.out).mono ?_); (case side1 => repeat (first | exact (Kd.R_reads' HO725.out).2.2 | (with_reducible refine Kd.C_alloc ?_ _) | (with_reducible refine Kd.C_drewN ?_ _) | (with_reducible refine Kd.C_drew ?_))); (case side2 => exact (Kd.R_reads' HO725.out).2.1); (case side3 => repeat (first | exact (Kd.R_reads' HO727.out).2.2 | (with_reducible refine Kd.C_alloc ?_ _) | (with_reducible refine Kd.C_drewN ?_ _) | (with_reducible refine Kd.C_drew ?_))); (case side4 => exact (Kd.R_reads' HO727.out).2.1); rintro e w44 ⟨v755, rfl, ho0, hb⟩; refine ⟨_, rfl, ?_⟩; have n0_ := Aside0.mk (Kd.R_elder' (kr HO725.out) (Kd.R_base ho0) hb); have n1_ := Aside0.mk (Kd.R_elder' (kr HO727.out) (Kd.R_base ho0) hb); have n2_ := Aside0.mk (Kd.R_elder' (kr HO731.out) (Kd.R_base ho0) hb); have n3_ := Aside0.mk (Kd.R_elder' (kr HO735.out) (Kd.R_base ho0) hb); have n4_ := Aside0.mk (Kd.R_elder' (kr HO739.out) (Kd.R_base ho0) hb); have n5_ := Aside0.mk (Kd.R_elder' (kr HO743.out) (Kd.R_base ho0) hb); have n6_ := Aside0.mk (Kd.R_lower (Kd.R_new' (Kd.R_new' (Kd.R_new' (Kd.R_new' (Kd.R_new' (Kd.R_new' ho0 (Kd.R_lt (kr HO725.out))) (Kd.R_lt (kr HO727.out))) (Kd.R_lt (kr HO731.out))) (Kd.R_lt (kr HO735.out))) (Kd.R_lt (kr HO739.out))) (Kd.R_lt (kr HO743.out))) (below_size (bl0 HB.out))); have n7_ := Aside0.mk (below_step (bl0 HB.out) hb); clear HO725; clear HO727; clear HO731; clear HO735; clear HO739; clear HO743; clear HB; have HO725 := n0_; have HO727 := n1_; have HO731 := n2_; have HO735 := n3_; have HO739 := n4_; have HO743 := n5_; have HO756 := n6_; have HB := n7_; clear n0_ n1_ n2_ n3_ n4_ n5_ n6_ n7_; (try clear hb); (try clear hb2); (try clear hk); (try clear hi); (try clear ho0)))
               (try simp only [Act.put, List.setIfInBounds_toArray, List.set_cons_zero, List.set_cons_succ])
               refine cutF [ff, ff, ff, ff, tt, ff, ff, ff, ff, ff, ff, ff, ff, ff, ff, ff, ff, ff, ff, ff, ff, ff, ff, ff, ff, tt, tt, ff, ff, ff, ff, ff, ff, ff, ff, ff, ff, ff, ff, ff, ff, ff, ff, ff, ff, ff, ff, ff, ff, ff, ff, ff, ff, ff, ff, ff, ff, ff, ff, ff, ff, ff, ff, ff, ff, ff, ff, ff, ff, ff, ff, ff, ff, ff, ff, ff, ff, ff, ff, ff, ff, ff, ff, ff, ff, ff, ff, ff, ff, ff, ff, ff, tt, tt, tt, tt, tt, tt, tt, tt, tt, tt, tt, tt, tt, tt, tt, tt, tt, tt, tt, tt, tt, tt, tt, tt, tt, tt, tt, tt, tt, tt, tt, tt, tt, tt, tt, tt, tt, tt, tt, tt, tt, tt, tt, tt, tt, tt, tt, tt, tt, tt, tt, tt, tt, tt, tt, tt, tt, tt, tt, tt, tt, tt, tt, tt, tt, tt, tt, tt, tt, tt, tt, tt, tt, tt, tt, tt, tt, tt, tt, tt, tt, tt, tt, tt, tt, tt, tt, tt, tt, tt, tt, tt, tt, tt, tt, tt, tt, tt, tt, tt, tt, tt, tt, tt, tt, tt, tt, tt, tt, tt, tt, tt, tt, tt, tt, tt, tt, tt, tt, tt, tt, tt, tt, tt, tt, tt, tt, tt, tt, tt, tt, tt, tt, tt, tt, tt, tt, tt, tt, tt, tt, tt, tt, ff, ff, ff, ff, ff, ff, ff, ff, ff, ff, ff, ff, ff, ff, ff, ff, ff, ff, ff, ff, ff, ff, ff, ff, ff, ff, ff, ff, ff, ff, ff, ff, ff, ff, ff, ff, ff, ff, ff, ff, ff, ff, ff, ff, ff, ff, ff, ff, ff, ff, ff, ff, ff, ff, ff, ff, ff, ff, ff, ff, ff, ff, ff, ff, ff, ff, ff, ff, ff, ff, ff, ff, ff, ff, ff, ff, ff, ff, ff, ff, ff, ff, ff, ff, ff, ff, ff, ff, ff, ff, ff, ff, ff, ff, ff, ff, ff, ff, ff, ff, ff, ff, ff, ff, ff, ff, ff, ff, ff, ff, ff, ff, ff, ff, ff, ff, ff, ff, ff, ff, ff, ff, ff, ff, ff, ff, ff, ff, ff, ff, ff, ff, ff, ff, ff, ff, ff, ff, ff, ff, ff, ff, ff, ff, ff, ff, ff, ff, ff, ff, ff, ff, ff, ff, ff, ff, ff, ff, ff, ff, ff, ff, ff, ff, ff, ff, ff, ff, ff, ff, ff, ff, ff, ff, ff, ff, ff, ff, ff, ff, ff, ff, ff, ff, ff, ff, ff, ff, ff, ff, ff, ff, ff, ff, ff, ff, ff, ff, ff, ff, ff, ff, ff, ff, ff, ff, ff, ff, ff, ff, ff, ff, ff, ff, ff, ff, ff, ff, ff, ff, ff, ff, ff, ff, ff, ff, ff, ff, ff, ff, ff, ff, ff, ff, ff, ff, ff, ff, ff, ff, ff, ff, ff, ff, ff, ff, ff, ff, ff, ff, ff, ff, ff, ff, ff, ff, ff, ff, ff, ff, ff, ff, ff, ff, ff, ff, ff, ff, ff, ff, ff, ff, ff, ff, ff, ff, ff, ff, ff, ff, ff, ff, ff, ff, ff, ff, ff, ff, ff, ff, ff, ff, ff, ff, ff, ff, ff, ff, ff, ff, ff, ff, ff, ff, ff, ff, ff, ff, ff, ff, ff, ff, ff, ff, ff, ff, ff, ff, ff, ff, ff, ff, ff, ff, ff, ff, ff, ff, ff, ff, ff, ff, ff] (fun f_ wc => ∃ (kq : Nat), Aside0 (laws_FnPhasesWork.j0 kq l1 t720 t721 t722 t723 t728 = some r) ∧ Aside0 (kq ≤ k) ∧ Aside0 (Kd.R (Kd.int .i64) 3 wc w.heap.size (fun k_ => some k_ ≠ ((.slice Ao22 t721.length co22) : Value).ownBlock ∧ some k_ ≠ ((.slice Ao27 t728.length co27) : Value).ownBlock) (.slice Ao21 t720.length co21) t720) ∧ Aside0 (Kd.R (Kd.int .i64) 3 wc w.heap.size (fun k_ => some k_ ≠ ((.slice Ao21 t720.length co21) : Value).ownBlock ∧ some k_ ≠ ((.slice Ao27 t728.length co27) : Value).ownBlock) (.slice Ao22 t721.length co22) t721) ∧ Aside0 (Kd.R (Kd.int .i64) 3 wc w.heap.size (fun k_ => some k_ ≠ ((.slice Ao21 t720.length co21) : Value).ownBlock ∧ some k_ ≠ ((.slice Ao22 t721.length co22) : Value).ownBlock) (.slice Ao27 t728.length co27) t728) ∧ Aside0 (Below w.heap.size w wc)) ?first_j0 ?rest_j0
               case first_j0 => as_aux_lemma =>
                intro J_ K_ hJ_j0 hK_
                have H := HC41.out
                clear HC41
                by_cases c45 : t754 = true
                ·subst c45
                 rw [if_pos rfl] at H
                 replace H := Option.bind_eq_some_iff.mp H
                 obtain ⟨⟨t757, t758⟩, A460, H⟩ := H
                 (try dsimp only at H)
                 have A46 := Aside0.mk A460
                 clear A460
                 by_cases c47 : t758 = true
                 ·subst c47
                  rw [if_pos rfl] at H
                  replace H := Option.bind_eq_some_iff.mp H
                  obtain ⟨t761, A480, H⟩ := H
                  (try dsimp only at H)
                  have A48 := Aside0.mk A480
                  clear A480
                  by_cases c49 : t761 = true
                  ·subst c49
                   rw [if_pos rfl] at H
                   have H' := Aside0.mk H
                   clear H
                   obtain ⟨Ao50, co50, eo50⟩ := Kd.R_slice HO756.out
                   subst eo50
                   go_wp2_with (first | ((with_reducible refine gate_callee (f := 16) rfl ?_); refine goesLS_ (some 224) Try.func16 #[.slice Ao50 t753.length co50, .int .i64 t723, .int .i64 0] ?_; (with_reducible refine (impl_DropSamples.calls k _ _ t753 t723 0 t757 true _ ?side1 ?side2 A46.out).mono ?_); (case side1 => repeat (first | exact (Kd.R_reads' HO756.out).2.2 | (with_reducible refine Kd.C_alloc ?_ _) | (with_reducible refine Kd.C_drewN ?_ _) | (with_reducible refine Kd.C_drew ?_))); (case side2 => exact (Kd.R_reads' HO756.out).2.1); rintro e w51 ⟨v759, rfl, ho0, hb⟩; refine ⟨_, rfl, ?_⟩; have n0_ := Aside0.mk (Kd.R_elder' (kr HO725.out) (Kd.R_base ho0) hb); have n1_ := Aside0.mk (Kd.R_elder' (kr HO727.out) (Kd.R_base ho0) hb); have n2_ := Aside0.mk (Kd.R_elder' (kr HO731.out) (Kd.R_base ho0) hb); have n3_ := Aside0.mk (Kd.R_elder' (kr HO735.out) (Kd.R_base ho0) hb); have n4_ := Aside0.mk (Kd.R_elder' (kr HO739.out) (Kd.R_base ho0) hb); have n5_ := Aside0.mk (Kd.R_elder' (kr HO743.out) (Kd.R_base ho0) hb); have n6_ := Aside0.mk (Kd.R_elder' (kr HO756.out) (Kd.R_base ho0) hb); have n7_ := Aside0.mk (Kd.R_lower (Kd.R_new' (Kd.R_new' (Kd.R_new' (Kd.R_new' (Kd.R_new' (Kd.R_new' (Kd.R_new' ho0 (Kd.R_lt (kr HO725.out))) (Kd.R_lt (kr HO727.out))) (Kd.R_lt (kr HO731.out))) (Kd.R_lt (kr HO735.out))) (Kd.R_lt (kr HO739.out))) (Kd.R_lt (kr HO743.out))) (Kd.R_lt (kr HO756.out))) (below_size (bl0 HB.out))); have n8_ := Aside0.mk (below_step (bl0 HB.out) hb); clear HO725; clear HO727; clear HO731; clear HO735; clear HO739; clear HO743; clear HO756; clear HB; have HO725 := n0_; have HO727 := n1_; have HO731 := n2_; have HO735 := n3_; have HO739 := n4_; have HO743 := n5_; have HO756 := n6_; have HO760 := n7_; have HB := n8_; clear n0_ n1_ n2_ n3_ n4_ n5_ n6_ n7_ n8_; (try clear hb); (try clear hb2); (try clear hk); (try clear hi); (try clear ho0); obtain ⟨Ao52, co52, eo52⟩ := Kd.R_slice HO760.out; subst eo52) | (go_at_call 11; (with_reducible refine (laws_iSame.calls k _ _ t757 _ _ t728 true _ ?side1 ?side2 ?side3 ?side4 A48.out).mono ?_); (case side1 => repeat (first | exact (Kd.R_reads' HO760.out).2.2 | (with_reducible refine Kd.C_alloc ?_ _) | (with_reducible refine Kd.C_drewN ?_ _) | (with_reducible refine Kd.C_drew ?_))); (case side2 => exact (Kd.R_reads' HO760.out).2.1); (case side3 => repeat (first | exact (Kd.R_reads' HO731.out).2.2 | (with_reducible refine Kd.C_alloc ?_ _) | (with_reducible refine Kd.C_drewN ?_ _) | (with_reducible refine Kd.C_drew ?_))); (case side4 => exact (Kd.R_reads' HO731.out).2.1); rintro e w' ⟨rfl, ⟨nd, rfl⟩⟩))
                   refine meetF hJ_j0 (by kernel_rfl) (by kernel_rfl) ?rel_z53
                   case rel_z53 => (try simp only [List.getD_cons_succ, List.getD_cons_zero]); exact ⟨_, H', ⟨by first | omega | exact Nat.le_refl _⟩, ⟨by (with_reducible repeat (first | apply Kd.R_alloc | apply Kd.R_drewN | apply Kd.R_drew)); exact Kd.R_mono HO725.out (fun _ hk => ⟨hk.1.1.1.1.1.1, hk.1.1.1.1.1.2⟩)⟩, ⟨by (with_reducible repeat (first | apply Kd.R_alloc | apply Kd.R_drewN | apply Kd.R_drew)); exact Kd.R_mono HO727.out (fun _ hk => ⟨hk.1.1.1.1.1.1, hk.1.1.1.1.1.2⟩)⟩, ⟨by (with_reducible repeat (first | apply Kd.R_alloc | apply Kd.R_drewN | apply Kd.R_drew)); exact Kd.R_mono HO731.out (fun _ hk => ⟨hk.1.1.1.1.1.1.2, hk.1.1.1.1.1.2⟩)⟩, ⟨bl0 HB.out⟩⟩
                  ·replace c49 := Bool.eq_false_iff.mpr c49
                   subst c49
                   rw [if_neg (show ¬ (false = true) by decide)] at H
                   obtain rfl := Option.some.inj H
                   exact absurd HT.out (by simp)
                 ·replace c47 := Bool.eq_false_iff.mpr c47
                  subst c47
                  rw [if_neg (show ¬ (false = true) by decide)] at H
                  obtain rfl := Option.some.inj H
                  exact absurd HT.out (by simp)
                ·replace c45 := Bool.eq_false_iff.mpr c45
                 subst c45
                 rw [if_neg (show ¬ (false = true) by decide)] at H
                 have H' := Aside0.mk H
                 clear H
                 go_wp2
                 refine meetF hJ_j0 (by kernel_rfl) (by kernel_rfl) ?rel_z54
                 case rel_z54 => (try simp only [List.getD_cons_succ, List.getD_cons_zero]); exact ⟨_, H', ⟨by first | omega | exact Nat.le_refl _⟩, ⟨by (with_reducible repeat (first | apply Kd.R_alloc | apply Kd.R_drewN | apply Kd.R_drew)); exact Kd.R_mono HO725.out (fun _ hk => ⟨hk.1.1.1.1.1, hk.1.1.1.1.2⟩)⟩, ⟨by (with_reducible repeat (first | apply Kd.R_alloc | apply Kd.R_drewN | apply Kd.R_drew)); exact Kd.R_mono HO727.out (fun _ hk => ⟨hk.1.1.1.1.1, hk.1.1.1.1.2⟩)⟩, ⟨by (with_reducible repeat (first | apply Kd.R_alloc | apply Kd.R_drewN | apply Kd.R_drew)); exact Kd.R_mono HO731.out (fun _ hk => ⟨hk.1.1.1.1.1.2, hk.1.1.1.1.2⟩)⟩, ⟨bl0 HB.out⟩⟩
               case rest_j0 => as_aux_lemma =>
                intro f_ wc hcut
                dsimp only [ov]
                clear HC41
                try clear c1
                try clear p2
                try clear c3
                try clear c4
                try clear c5
                try clear c6
                try clear c7
                try clear c8
                try clear c9
                try clear c10
                try clear c10b0
                try clear c10b1
                try clear c10b2
                try clear c12
                try clear c13
                try clear c13b0
                try clear c13b1
                try clear c13b2
                try clear c14
                try clear c15
                try clear c16
                try clear c16b0
                try clear c16b1
                try clear c16b2
                try clear c18
                try clear c31
                try clear c35
                try clear c36
                try clear c36b0
                try clear c36b1
                try clear c37
                try clear c38
                try clear c39
                try clear c39b0
                try clear c45
                try clear c47
                try clear c49
                obtain ⟨kq, HA, HJ40, HO_5, HO_6, HO_9, HB⟩ := hcut
                cases kq with
                | zero => exact absurd HA.out (by simp [laws_FnPhasesWork.j0])
                | succ kj40 =>
                 have H := HA.out
                 clear HA
                 simp only [laws_FnPhasesWork.j0] at H
                 by_cases c55 : t722 = 1
                 ·rw [if_pos c55] at H
                  have c55b0 : (t722 == 1) = true := beq_iff_eq.mpr c55
                  have c55b1 : (t722 != 1) = false := bne_eq_false_iff_eq.mpr c55
                  clear c55
                  replace H := Option.bind_eq_some_iff.mp H
                  obtain ⟨⟨t762, t763⟩, A560, H⟩ := H
                  (try dsimp only at H)
                  have A56 := Aside0.mk A560
                  clear A560
                  replace H := Option.bind_eq_some_iff.mp H
                  obtain ⟨⟨t766, t767⟩, A570, H⟩ := H
                  (try dsimp only at H)
                  have A57 := Aside0.mk A570
                  clear A570
                  by_cases c58 : t763 = true
                  ·subst c58
                   rw [if_pos rfl] at H
                   replace H := Option.bind_eq_some_iff.mp H
                   obtain ⟨t770, A590, H⟩ := H
                   (try dsimp only at H)
                   have A59 := Aside0.mk A590
                   clear A590
                   by_cases c60 : t770 = true
                   ·subst c60
                    rw [if_pos rfl] at H
                    by_cases c61 : t767 = true
                    ·subst c61
                     rw [if_pos rfl] at H
                     replace H := Option.bind_eq_some_iff.mp H
                     obtain ⟨⟨t771, t772⟩, A620, H⟩ := H
                     (try dsimp only at H)
                     have A62 := Aside0.mk A620
                     clear A620
                     by_cases c63 : t772 = true
                     ·subst c63
                      rw [if_pos rfl] at H
                      replace H := Option.bind_eq_some_iff.mp H
                      obtain ⟨t775, A640, H⟩ := H
                      (try dsimp only at H)
                      have A64 := Aside0.mk A640
                      clear A640
                      by_cases c65 : t775 = true
                      ·subst c65
                       rw [if_pos rfl] at H
                       have H' := Aside0.mk H
                       clear H
                       go_wp2_with (first | ((with_reducible refine gate_callee (f := 17) rfl ?_); refine goesLS_ (some 241) Try.func17 #[.slice Ao21 t720.length co21, .slice Ao22 t721.length co22, .int .i64 t723] ?_; (with_reducible refine (impl_DownFilter.calls kj40 _ _ t720 _ _ t721 t723 t762 true _ ?side1 ?side2 ?side3 ?side4 A56.out).mono ?_); (case side1 => repeat (first | exact (Kd.R_reads' HO_5.out).2.2 | (with_reducible refine Kd.C_alloc ?_ _) | (with_reducible refine Kd.C_drewN ?_ _) | (with_reducible refine Kd.C_drew ?_))); (case side2 => exact (Kd.R_reads' HO_5.out).2.1); (case side3 => repeat (first | exact (Kd.R_reads' HO_6.out).2.2 | (with_reducible refine Kd.C_alloc ?_ _) | (with_reducible refine Kd.C_drewN ?_ _) | (with_reducible refine Kd.C_drew ?_))); (case side4 => exact (Kd.R_reads' HO_6.out).2.1); rintro e w66 ⟨v764, rfl, ho0, hb⟩; refine ⟨_, rfl, ?_⟩; have n0_ := Aside0.mk (Kd.R_elder' (kr HO_5.out) (Kd.R_base ho0) hb); have n1_ := Aside0.mk (Kd.R_elder' (kr HO_6.out) (Kd.R_base ho0) hb); have n2_ := Aside0.mk (Kd.R_elder' (kr HO_9.out) (Kd.R_base ho0) hb); have n3_ := Aside0.mk (Kd.R_lower (Kd.R_new' (Kd.R_new' (Kd.R_new' ho0 (Kd.R_lt (kr HO_5.out))) (Kd.R_lt (kr HO_6.out))) (Kd.R_lt (kr HO_9.out))) (below_size (bl0 HB.out))); have n4_ := Aside0.mk (below_step (bl0 HB.out) hb); clear HO_5; clear HO_6; clear HO_9; clear HB; have HO_5 := n0_; have HO_6 := n1_; have HO_9 := n2_; have HO765 := n3_; have HB := n4_; clear n0_ n1_ n2_ n3_ n4_; (try clear hb); (try clear hb2); (try clear hk); (try clear hi); (try clear ho0)) | ((with_reducible refine gate_callee (f := 18) rfl ?_); refine goesLS_ (some 247) Try.func18 #[.slice Ao21 t720.length co21, .slice Ao22 t721.length co22] ?_; (with_reducible refine (impl_FilterShort.calls kj40 _ _ t720 _ _ t721 t766 true _ ?side1 ?side2 ?side3 ?side4 A57.out).mono ?_); (case side1 => repeat (first | exact (Kd.R_reads' HO_5.out).2.2 | (with_reducible refine Kd.C_alloc ?_ _) | (with_reducible refine Kd.C_drewN ?_ _) | (with_reducible refine Kd.C_drew ?_))); (case side2 => exact (Kd.R_reads' HO_5.out).2.1); (case side3 => repeat (first | exact (Kd.R_reads' HO_6.out).2.2 | (with_reducible refine Kd.C_alloc ?_ _) | (with_reducible refine Kd.C_drewN ?_ _) | (with_reducible refine Kd.C_drew ?_))); (case side4 => exact (Kd.R_reads' HO_6.out).2.1); rintro e w67 ⟨v768, rfl, ho0, hb⟩; refine ⟨_, rfl, ?_⟩; have n0_ := Aside0.mk (Kd.R_elder' (kr HO_5.out) (Kd.R_base ho0) hb); have n1_ := Aside0.mk (Kd.R_elder' (kr HO_6.out) (Kd.R_base ho0) hb); have n2_ := Aside0.mk (Kd.R_elder' (kr HO_9.out) (Kd.R_base ho0) hb); have n3_ := Aside0.mk (Kd.R_elder' (kr HO765.out) (Kd.R_base ho0) hb); have n4_ := Aside0.mk (Kd.R_lower (Kd.R_new' (Kd.R_new' (Kd.R_new' (Kd.R_new' ho0 (Kd.R_lt (kr HO_5.out))) (Kd.R_lt (kr HO_6.out))) (Kd.R_lt (kr HO_9.out))) (Kd.R_lt (kr HO765.out))) (below_size (bl0 HB.out))); have n5_ := Aside0.mk (below_step (bl0 HB.out) hb); clear HO_5; clear HO_6; clear HO_9; clear HO765; clear HB; have HO_5 := n0_; have HO_6 := n1_; have HO_9 := n2_; have HO765 := n3_; have HO769 := n4_; have HB := n5_; clear n0_ n1_ n2_ n3_ n4_ n5_; (try clear hb); (try clear hb2); (try clear hk); (try clear hi); (try clear ho0); obtain ⟨Ao68, co68, eo68⟩ := Kd.R_slice HO765.out; subst eo68) | (go_at_call 11; (with_reducible refine (laws_iSame.calls kj40 _ _ t762 _ _ t728 true _ ?side1 ?side2 ?side3 ?side4 A59.out).mono ?_); (case side1 => repeat (first | exact (Kd.R_reads' HO765.out).2.2 | (with_reducible refine Kd.C_alloc ?_ _) | (with_reducible refine Kd.C_drewN ?_ _) | (with_reducible refine Kd.C_drew ?_))); (case side2 => exact (Kd.R_reads' HO765.out).2.1); (case side3 => repeat (first | exact (Kd.R_reads' HO_9.out).2.2 | (with_reducible refine Kd.C_alloc ?_ _) | (with_reducible refine Kd.C_drewN ?_ _) | (with_reducible refine Kd.C_drew ?_))); (case side4 => exact (Kd.R_reads' HO_9.out).2.1); rintro e w' ⟨rfl, ⟨nd, rfl⟩⟩; obtain ⟨Ao69, co69, eo69⟩ := Kd.R_slice HO769.out; subst eo69) | ((with_reducible refine gate_callee (f := 16) rfl ?_); refine goesLS_ (some 262) Try.func16 #[.slice Ao69 t766.length co69, .int .i64 t723, .int .i64 0] ?_; (with_reducible refine (impl_DropSamples.calls kj40 _ _ t766 t723 0 t771 true _ ?side1 ?side2 A62.out).mono ?_); (case side1 => repeat (first | exact (Kd.R_reads' HO769.out).2.2 | (with_reducible refine Kd.C_alloc ?_ _) | (with_reducible refine Kd.C_drewN ?_ _) | (with_reducible refine Kd.C_drew ?_))); (case side2 => exact (Kd.R_reads' HO769.out).2.1); rintro e w70 ⟨v773, rfl, ho0, hb⟩; refine ⟨_, rfl, ?_⟩; have n0_ := Aside0.mk (Kd.R_elder' (kr HO_5.out) (Kd.R_base ho0) hb); have n1_ := Aside0.mk (Kd.R_elder' (kr HO_6.out) (Kd.R_base ho0) hb); have n2_ := Aside0.mk (Kd.R_elder' (kr HO_9.out) (Kd.R_base ho0) hb); have n3_ := Aside0.mk (Kd.R_elder' (kr HO765.out) (Kd.R_base ho0) hb); have n4_ := Aside0.mk (Kd.R_elder' (kr HO769.out) (Kd.R_base ho0) hb); have n5_ := Aside0.mk (Kd.R_lower (Kd.R_new' (Kd.R_new' (Kd.R_new' (Kd.R_new' (Kd.R_new' ho0 (Kd.R_lt (kr HO_5.out))) (Kd.R_lt (kr HO_6.out))) (Kd.R_lt (kr HO_9.out))) (Kd.R_lt (kr HO765.out))) (Kd.R_lt (kr HO769.out))) (below_size (bl0 HB.out))); have n6_ := Aside0.mk (below_step (bl0 HB.out) hb); clear HO_5; clear HO_6; clear HO_9; clear HO765; clear HO769; clear HB; have HO_5 := n0_; have HO_6 := n1_; have HO_9 := n2_; have HO765 := n3_; have HO769 := n4_; have HO774 := n5_; have HB := n6_; clear n0_ n1_ n2_ n3_ n4_ n5_ n6_; (try clear hb); (try clear hb2); (try clear hk); (try clear hi); (try clear ho0); obtain ⟨Ao71, co71, eo71⟩ := Kd.R_slice HO774.out; subst eo71) | (go_at_call 11; (with_reducible refine (laws_iSame.calls kj40 _ _ t771 _ _ t762 true _ ?side1 ?side2 ?side3 ?side4 A64.out).mono ?_); (case side1 => repeat (first | exact (Kd.R_reads' HO774.out).2.2 | (with_reducible refine Kd.C_alloc ?_ _) | (with_reducible refine Kd.C_drewN ?_ _) | (with_reducible refine Kd.C_drew ?_))); (case side2 => exact (Kd.R_reads' HO774.out).2.1); (case side3 => repeat (first | exact (Kd.R_reads' HO765.out).2.2 | (with_reducible refine Kd.C_alloc ?_ _) | (with_reducible refine Kd.C_drewN ?_ _) | (with_reducible refine Kd.C_drew ?_))); (case side4 => exact (Kd.R_reads' HO765.out).2.1); rintro e w' ⟨rfl, ⟨nd, rfl⟩⟩))
                       refine meetF hJ_j1 (by kernel_rfl) (by kernel_rfl) ?rel_z72
                       case rel_z72 => (try simp only [List.getD_cons_succ, List.getD_cons_zero]); exact ⟨_, H', ⟨by have := HJ40.out; first | omega | exact Nat.le_refl _⟩, ⟨bl0 HB.out⟩⟩
                      ·replace c65 := Bool.eq_false_iff.mpr c65
                       subst c65
                       rw [if_neg (show ¬ (false = true) by decide)] at H
                       obtain rfl := Option.some.inj H
                       exact absurd HT.out (by simp)
                     ·replace c63 := Bool.eq_false_iff.mpr c63
                      subst c63
                      rw [if_neg (show ¬ (false = true) by decide)] at H
                      obtain rfl := Option.some.inj H
                      exact absurd HT.out (by simp)
                    ·replace c61 := Bool.eq_false_iff.mpr c61
                     subst c61
                     rw [if_neg (show ¬ (false = true) by decide)] at H
                     have H' := Aside0.mk H
                     clear H
                     go_wp2_with (first | ((with_reducible refine gate_callee (f := 17) rfl ?_); refine goesLS_ (some 241) Try.func17 #[.slice Ao21 t720.length co21, .slice Ao22 t721.length co22, .int .i64 t723] ?_; (with_reducible refine (impl_DownFilter.calls kj40 _ _ t720 _ _ t721 t723 t762 true _ ?side1 ?side2 ?side3 ?side4 A56.out).mono ?_); (case side1 => repeat (first | exact (Kd.R_reads' HO_5.out).2.2 | (with_reducible refine Kd.C_alloc ?_ _) | (with_reducible refine Kd.C_drewN ?_ _) | (with_reducible refine Kd.C_drew ?_))); (case side2 => exact (Kd.R_reads' HO_5.out).2.1); (case side3 => repeat (first | exact (Kd.R_reads' HO_6.out).2.2 | (with_reducible refine Kd.C_alloc ?_ _) | (with_reducible refine Kd.C_drewN ?_ _) | (with_reducible refine Kd.C_drew ?_))); (case side4 => exact (Kd.R_reads' HO_6.out).2.1); rintro e w73 ⟨v764, rfl, ho0, hb⟩; refine ⟨_, rfl, ?_⟩; have n0_ := Aside0.mk (Kd.R_elder' (kr HO_5.out) (Kd.R_base ho0) hb); have n1_ := Aside0.mk (Kd.R_elder' (kr HO_6.out) (Kd.R_base ho0) hb); have n2_ := Aside0.mk (Kd.R_elder' (kr HO_9.out) (Kd.R_base ho0) hb); have n3_ := Aside0.mk (Kd.R_lower (Kd.R_new' (Kd.R_new' (Kd.R_new' ho0 (Kd.R_lt (kr HO_5.out))) (Kd.R_lt (kr HO_6.out))) (Kd.R_lt (kr HO_9.out))) (below_size (bl0 HB.out))); have n4_ := Aside0.mk (below_step (bl0 HB.out) hb); clear HO_5; clear HO_6; clear HO_9; clear HB; have HO_5 := n0_; have HO_6 := n1_; have HO_9 := n2_; have HO765 := n3_; have HB := n4_; clear n0_ n1_ n2_ n3_ n4_; (try clear hb); (try clear hb2); (try clear hk); (try clear hi); (try clear ho0)) | ((with_reducible refine gate_callee (f := 18) rfl ?_); refine goesLS_ (some 247) Try.func18 #[.slice Ao21 t720.length co21, .slice Ao22 t721.length co22] ?_; (with_reducible refine (impl_FilterShort.calls kj40 _ _ t720 _ _ t721 t766 false _ ?side1 ?side2 ?side3 ?side4 A57.out).mono ?_); (case side1 => repeat (first | exact (Kd.R_reads' HO_5.out).2.2 | (with_reducible refine Kd.C_alloc ?_ _) | (with_reducible refine Kd.C_drewN ?_ _) | (with_reducible refine Kd.C_drew ?_))); (case side2 => exact (Kd.R_reads' HO_5.out).2.1); (case side3 => repeat (first | exact (Kd.R_reads' HO_6.out).2.2 | (with_reducible refine Kd.C_alloc ?_ _) | (with_reducible refine Kd.C_drewN ?_ _) | (with_reducible refine Kd.C_drew ?_))); (case side4 => exact (Kd.R_reads' HO_6.out).2.1); rintro e w74 ⟨v768, rfl, ho0, hb⟩; refine ⟨_, rfl, ?_⟩; have n0_ := Aside0.mk (Kd.R_elder' (kr HO_5.out) (Kd.R_base ho0) hb); have n1_ := Aside0.mk (Kd.R_elder' (kr HO_6.out) (Kd.R_base ho0) hb); have n2_ := Aside0.mk (Kd.R_elder' (kr HO_9.out) (Kd.R_base ho0) hb); have n3_ := Aside0.mk (Kd.R_elder' (kr HO765.out) (Kd.R_base ho0) hb); have n4_ := Aside0.mk (Kd.R_lower (Kd.R_new' (Kd.R_new' (Kd.R_new' (Kd.R_new' ho0 (Kd.R_lt (kr HO_5.out))) (Kd.R_lt (kr HO_6.out))) (Kd.R_lt (kr HO_9.out))) (Kd.R_lt (kr HO765.out))) (below_size (bl0 HB.out))); have n5_ := Aside0.mk (below_step (bl0 HB.out) hb); clear HO_5; clear HO_6; clear HO_9; clear HO765; clear HB; have HO_5 := n0_; have HO_6 := n1_; have HO_9 := n2_; have HO765 := n3_; have HO769 := n4_; have HB := n5_; clear n0_ n1_ n2_ n3_ n4_ n5_; (try clear hb); (try clear hb2); (try clear hk); (try clear hi); (try clear ho0); obtain ⟨Ao75, co75, eo75⟩ := Kd.R_slice HO765.out; subst eo75) | (go_at_call 11; (with_reducible refine (laws_iSame.calls kj40 _ _ t762 _ _ t728 true _ ?side1 ?side2 ?side3 ?side4 A59.out).mono ?_); (case side1 => repeat (first | exact (Kd.R_reads' HO765.out).2.2 | (with_reducible refine Kd.C_alloc ?_ _) | (with_reducible refine Kd.C_drewN ?_ _) | (with_reducible refine Kd.C_drew ?_))); (case side2 => exact (Kd.R_reads' HO765.out).2.1); (case side3 => repeat (first | exact (Kd.R_reads' HO_9.out).2.2 | (with_reducible refine Kd.C_alloc ?_ _) | (with_reducible refine Kd.C_drewN ?_ _) | (with_reducible refine Kd.C_drew ?_))); (case side4 => exact (Kd.R_reads' HO_9.out).2.1); rintro e w' ⟨rfl, ⟨nd, rfl⟩⟩))
                     refine meetF hJ_j1 (by kernel_rfl) (by kernel_rfl) ?rel_z76
                     case rel_z76 => (try simp only [List.getD_cons_succ, List.getD_cons_zero]); exact ⟨_, H', ⟨by have := HJ40.out; first | omega | exact Nat.le_refl _⟩, ⟨bl0 HB.out⟩⟩
                   ·replace c60 := Bool.eq_false_iff.mpr c60
                    subst c60
                    rw [if_neg (show ¬ (false = true) by decide)] at H
                    obtain rfl := Option.some.inj H
                    exact absurd HT.out (by simp)
                  ·replace c58 := Bool.eq_false_iff.mpr c58
                   subst c58
                   rw [if_neg (show ¬ (false = true) by decide)] at H
                   obtain rfl := Option.some.inj H
                   exact absurd HT.out (by simp)
                 ·rw [if_neg c55] at H
                  have c55b0 : (t722 == 1) = false := beq_eq_false_iff_ne.mpr c55
                  have c55b1 : (t722 != 1) = true := bne_iff_ne.mpr c55
                  have H' := Aside0.mk H
                  clear H
                  go_wp2
                  refine meetF hJ_j1 (by kernel_rfl) (by kernel_rfl) ?rel_z77
                  case rel_z77 => (try simp only [List.getD_cons_succ, List.getD_cons_zero]); exact ⟨_, H', ⟨by have := HJ40.out; first | omega | exact Nat.le_refl _⟩, ⟨bl0 HB.out⟩⟩
             ·replace c38 := Bool.eq_false_iff.mpr c38
              subst c38
              rw [if_neg (show ¬ (false = true) by decide)] at H
              obtain rfl := Option.some.inj H
              exact absurd HT.out (by simp)
            ·replace c37 := Bool.eq_false_iff.mpr c37
             subst c37
             rw [if_neg (show ¬ (false = true) by decide)] at H
             obtain rfl := Option.some.inj H
             exact absurd HT.out (by simp)
           ·rw [if_neg c36] at H
            have c36b0 : ((t728.length : Int) == t747) = false := beq_eq_false_iff_ne.mpr c36
            have c36b1 : ((t728.length : Int) != t747) = true := bne_iff_ne.mpr c36
            (first | rw [c36b0] | (simp only [i64_w, i32_w]; rw [c36b0]) | skip)
            obtain rfl := Option.some.inj H
            exact absurd HT.out (by simp)
          ·replace c35 := Bool.eq_false_iff.mpr c35
           subst c35
           rw [if_neg (show ¬ (false = true) by decide)] at H
           obtain rfl := Option.some.inj H
           exact absurd HT.out (by simp)
         ·replace c31 := Bool.eq_false_iff.mpr c31
          subst c31
          rw [if_neg (show ¬ (false = true) by decide)] at H
          have H' := Aside0.mk H
          clear H
          go_wp2
          refine meetF hJ_j1 (by kernel_rfl) (by kernel_rfl) ?rel_z78
          case rel_z78 => (try simp only [List.getD_cons_succ, List.getD_cons_zero]); exact ⟨_, H', ⟨by first | omega | exact Nat.le_refl _⟩, ⟨bl0 HB.out⟩⟩
        case rest_j1 => as_aux_lemma =>
         intro f_ wc hcut
         dsimp only [ov]
         clear HC19
         try clear c1
         try clear p2
         try clear c3
         try clear c4
         try clear c5
         try clear c6
         try clear c7
         try clear c8
         try clear c9
         try clear c10
         try clear c10b0
         try clear c10b1
         try clear c10b2
         try clear c12
         try clear c13
         try clear c13b0
         try clear c13b1
         try clear c13b2
         try clear c14
         try clear c15
         try clear c16
         try clear c16b0
         try clear c16b1
         try clear c16b2
         try clear c17
         try clear c18
         try clear c31
         try clear c35
         try clear c36
         try clear c36b0
         try clear c36b1
         try clear c37
         try clear c38
         try clear c39
         try clear c39b0
         try clear c45
         try clear c47
         try clear c49
         try clear c55
         try clear c55b0
         try clear c55b1
         try clear c58
         try clear c60
         try clear c61
         try clear c63
         try clear c65
         try clear p2
         obtain ⟨kq, HA, HJ18, HB⟩ := hcut
         cases kq with
         | zero => exact absurd HA.out (by simp [laws_FnPhasesWork.j1])
         | succ kj18 =>
          have H := HA.out
          clear HA
          simp only [laws_FnPhasesWork.j1] at H
          replace H := Option.bind_eq_some_iff.mp H
          obtain ⟨⟨t776, t777⟩, A790, H⟩ := H
          (try dsimp only at H)
          have A79 := Aside0.mk A790
          clear A790
          replace H := Option.bind_eq_some_iff.mp H
          obtain ⟨⟨t780, t781⟩, A800, H⟩ := H
          (try dsimp only at H)
          have A80 := Aside0.mk A800
          clear A800
          replace H := Option.bind_eq_some_iff.mp H
          obtain ⟨⟨t784, t785⟩, A810, H⟩ := H
          (try dsimp only at H)
          have A81 := Aside0.mk A810
          clear A810
          replace H := Option.bind_eq_some_iff.mp H
          obtain ⟨t788, A820, H⟩ := H
          (try dsimp only at H)
          have A82 := Aside0.mk A820
          clear A820
          replace H := Option.bind_eq_some_iff.mp H
          obtain ⟨⟨t791, t792⟩, A830, H⟩ := H
          (try dsimp only at H)
          have A83 := Aside0.mk A830
          clear A830
          replace H := Option.bind_eq_some_iff.mp H
          obtain ⟨⟨t795, t796⟩, A840, H⟩ := H
          (try dsimp only at H)
          have A84 := Aside0.mk A840
          clear A840
          by_cases c85 : (t781 != t785) = true
          ·rw [if_pos c85] at H
           have c85b0 : (t781 != t785) = true := c85
           (try (have c85b1 : decide (t781 = t785) = false := by simpa using c85))
           (try (have c85b2 : (t781 == t785) = false := by simpa using c85))
           (try (have c85b3 : ¬ (t781 = t785) := by simpa using c85))
           clear c85
           obtain rfl := Option.some.inj H
           exact absurd HT.out (by simp)
          ·rw [if_neg c85] at H
           have c85b0 : (t781 != t785) = false := by simpa using c85
           (try (have c85b1 : decide (t781 = t785) = true := by simpa using c85))
           (try (have c85b2 : (t781 == t785) = true := by simpa using c85))
           clear c85
           replace H := Option.bind_eq_some_iff.mp H
           obtain ⟨t799, A860, H⟩ := H
           (try dsimp only at H)
           have A86 := Aside0.mk A860
           clear A860
           by_cases c87 : t799 = true
           ·subst c87
            rw [if_pos rfl] at H
            by_cases c88 : (t792 != t796) = true
            ·rw [if_pos c88] at H
             have c88b0 : (t792 != t796) = true := c88
             (try (have c88b1 : decide (t792 = t796) = false := by simpa using c88))
             (try (have c88b2 : (t792 == t796) = false := by simpa using c88))
             (try (have c88b3 : ¬ (t792 = t796) := by simpa using c88))
             clear c88
             obtain rfl := Option.some.inj H
             exact absurd HT.out (by simp)
            ·rw [if_neg c88] at H
             have c88b0 : (t792 != t796) = false := by simpa using c88
             (try (have c88b1 : decide (t792 = t796) = true := by simpa using c88))
             (try (have c88b2 : (t792 == t796) = true := by simpa using c88))
             clear c88
             replace H := Option.bind_eq_some_iff.mp H
             obtain ⟨t800, A890, H⟩ := H
             (try dsimp only at H)
             have A89 := Aside0.mk A890
             clear A890
             by_cases c90 : t800 = true
             ·subst c90
              rw [if_pos rfl] at H
              have HC91 := Aside0.mk H
              clear H
              go_upto_if 322 with (first | ((with_reducible refine gate_callee (f := 19) rfl ?_); refine goesLS_ (some 275) Try.func19 #[.slice A1 l1.length c1] ?_; (with_reducible refine (spec_DrawPhasesOf.calls kj18 _ _ l1 t776 t777 _ ?side1 ?side2 A79.out).mono ?_); (case side1 => repeat (first | exact (Kd.C_below HR1.out HB.out) | (with_reducible refine Kd.C_alloc ?_ _) | (with_reducible refine Kd.C_drewN ?_ _) | (with_reducible refine Kd.C_drew ?_))); (case side2 => exact HC1.out); rintro e w92 ⟨v778, rfl, ho0, hb⟩; refine ⟨_, rfl, ?_⟩; have n0_ := Aside0.mk (Kd.R_lower ho0 (below_size (bl0 HB.out))); have n1_ := Aside0.mk (below_step (bl0 HB.out) hb); clear HB; have HO779 := n0_; have HB := n1_; clear n0_ n1_; (try clear hb); (try clear hb2); (try clear hk); (try clear hi); (try clear ho0); obtain ⟨Ao93, co93, eo93⟩ := Kd.R_slice HO779.out; subst eo93) | ((with_reducible refine gate_callee (f := 20) rfl ?_); refine goesLS_ (some 281) Try.func20 #[.slice Ao93 t776.length co93, .int .i64 t777] ?_; (with_reducible refine (impl_PhasesOf.calls kj18 _ _ t776 t777 t780 t781 _ ?side1 ?side2 A80.out).mono ?_); (case side1 => repeat (first | exact (Kd.R_reads' HO779.out).2.2 | (with_reducible refine Kd.C_alloc ?_ _) | (with_reducible refine Kd.C_drewN ?_ _) | (with_reducible refine Kd.C_drew ?_))); (case side2 => exact (Kd.R_reads' HO779.out).2.1); rintro e w94 ⟨v782, rfl, ho0, hb⟩; refine ⟨_, rfl, ?_⟩; have n0_ := Aside0.mk (Kd.R_below (kr HO779.out) hb); have n1_ := Aside0.mk (Kd.S_lower (Kd.S_new' ho0 (Kd.R_lt (kr HO779.out))) (below_size (bl0 HB.out))); have n2_ := Aside0.mk (below_step (bl0 HB.out) hb); clear HO779; clear HB; have HO779 := n0_; have HO783 := n1_; have HB := n2_; clear n0_ n1_ n2_; (try clear hb); (try clear hb2); (try clear hk); (try clear hi); (try clear ho0)) | ((with_reducible refine gate_callee (f := 21) rfl ?_); refine goesLS_ (some 287) Try.func21 #[.slice Ao93 t776.length co93, .int .i64 t777] ?_; (with_reducible refine (spec_PhasesOf.calls kj18 _ _ t776 t777 t784 t785 _ ?side1 ?side2 A81.out).mono ?_); (case side1 => repeat (first | exact (Kd.R_reads' HO779.out).2.2 | (with_reducible refine Kd.C_alloc ?_ _) | (with_reducible refine Kd.C_drewN ?_ _) | (with_reducible refine Kd.C_drew ?_))); (case side2 => exact (Kd.R_reads' HO779.out).2.1); rintro e w95 ⟨v786, rfl, ho0, hb⟩; refine ⟨_, rfl, ?_⟩; have n0_ := Aside0.mk (Kd.R_below (kr HO779.out) hb); have n1_ := Aside0.mk (Kd.S_elder' (by (with_reducible repeat (first | apply Kd.S_alloc | apply Kd.S_drewN | apply Kd.S_drew)); exact HO783.out) (Kd.S_base ho0) hb); have n2_ := Aside0.mk (Kd.S_lower (Kd.S_new' (Kd.S_new' ho0 (Kd.R_lt (kr HO779.out))) (Kd.S_lt (by (with_reducible repeat (first | apply Kd.S_alloc | apply Kd.S_drewN | apply Kd.S_drew)); exact HO783.out))) (below_size (bl0 HB.out))); have n3_ := Aside0.mk (below_step (bl0 HB.out) hb); clear HO779; clear HO783; clear HB; have HO779 := n0_; have HO783 := n1_; have HO787 := n2_; have HB := n3_; clear n0_ n1_ n2_ n3_; (try clear hb); (try clear hb2); (try clear hk); (try clear hi); (try clear ho0)) | ((with_reducible refine gate_callee (f := 22) rfl ?_); refine goesLS_ (some 291) Try.func22 #[.slice A1 l1.length c1] ?_; (with_reducible refine (spec_DrawJoinPhases.calls kj18 _ _ l1 t788 _ ?side1 ?side2 A82.out).mono ?_); (case side1 => repeat (first | exact (Kd.C_below HR1.out HB.out) | (with_reducible refine Kd.C_alloc ?_ _) | (with_reducible refine Kd.C_drewN ?_ _) | (with_reducible refine Kd.C_drew ?_))); (case side2 => exact HC1.out); rintro e w96 ⟨v789, rfl, ho0, hb⟩; refine ⟨_, rfl, ?_⟩; have n0_ := Aside0.mk (Kd.R_below (kr HO779.out) hb); have n1_ := Aside0.mk (Kd.S_elder' (by (with_reducible repeat (first | apply Kd.S_alloc | apply Kd.S_drewN | apply Kd.S_drew)); exact HO783.out) (Kd.S_base ho0) hb); have n2_ := Aside0.mk (Kd.S_elder' (by (with_reducible repeat (first | apply Kd.S_alloc | apply Kd.S_drewN | apply Kd.S_drew)); exact HO787.out) (Kd.S_base ho0) hb); have n3_ := Aside0.mk (Kd.S_lower (Kd.S_new' (Kd.S_new' (Kd.S_new' ho0 (Kd.R_lt (kr HO779.out))) (Kd.S_lt (by (with_reducible repeat (first | apply Kd.S_alloc | apply Kd.S_drewN | apply Kd.S_drew)); exact HO783.out))) (Kd.S_lt (by (with_reducible repeat (first | apply Kd.S_alloc | apply Kd.S_drewN | apply Kd.S_drew)); exact HO787.out))) (below_size (bl0 HB.out))); have n4_ := Aside0.mk (below_step (bl0 HB.out) hb); clear HO779; clear HO783; clear HO787; clear HB; have HO779 := n0_; have HO783 := n1_; have HO787 := n2_; have HO790 := n3_; have HB := n4_; clear n0_ n1_ n2_ n3_ n4_; (try clear hb); (try clear hb2); (try clear hk); (try clear hi); (try clear ho0); obtain ⟨Ao97, co97, eo97⟩ := Kd.S_slice HO790.out; subst eo97) | ((with_reducible refine gate_callee (f := 23) rfl ?_); refine goesLS_ (some 294) Try.func23 #[.slice Ao97 t788.length co97] ?_; (with_reducible refine (impl_JoinPhases.calls kj18 _ _ t788 t791 t792 _ ?side1 ?side2 A83.out).mono ?_); (case side1 => repeat (first | exact (Kd.S_reads' HO790.out).2.2 | (with_reducible refine Kd.C_alloc ?_ _) | (with_reducible refine Kd.C_drewN ?_ _) | (with_reducible refine Kd.C_drew ?_))); (case side2 => exact (Kd.S_reads' HO790.out).2.1); rintro e w98 ⟨v793, rfl, ho0, hb⟩; refine ⟨_, rfl, ?_⟩; have n0_ := Aside0.mk (Kd.R_elder' (kr HO779.out) (Kd.R_base ho0) hb); have n1_ := Aside0.mk (Kd.S_elder' (by (with_reducible repeat (first | apply Kd.S_alloc | apply Kd.S_drewN | apply Kd.S_drew)); exact HO783.out) (Kd.R_base ho0) hb); have n2_ := Aside0.mk (Kd.S_elder' (by (with_reducible repeat (first | apply Kd.S_alloc | apply Kd.S_drewN | apply Kd.S_drew)); exact HO787.out) (Kd.R_base ho0) hb); have n3_ := Aside0.mk (Kd.S_elder' (by (with_reducible repeat (first | apply Kd.S_alloc | apply Kd.S_drewN | apply Kd.S_drew)); exact HO790.out) (Kd.R_base ho0) hb); have n4_ := Aside0.mk (Kd.R_lower (Kd.R_new' ho0 (Kd.R_lt (kr HO779.out))) (below_size (bl0 HB.out))); have n5_ := Aside0.mk (below_step (bl0 HB.out) hb); clear HO779; clear HO783; clear HO787; clear HO790; clear HB; have HO779 := n0_; have HO783 := n1_; have HO787 := n2_; have HO790 := n3_; have HO794 := n4_; have HB := n5_; clear n0_ n1_ n2_ n3_ n4_ n5_; (try clear hb); (try clear hb2); (try clear hk); (try clear hi); (try clear ho0)) | ((with_reducible refine gate_callee (f := 24) rfl ?_); refine goesLS_ (some 299) Try.func24 #[.slice Ao97 t788.length co97] ?_; (with_reducible refine (spec_JoinPhases.calls kj18 _ _ t788 t795 t796 _ ?side1 ?side2 A84.out).mono ?_); (case side1 => repeat (first | exact (Kd.S_reads' HO790.out).2.2 | (with_reducible refine Kd.C_alloc ?_ _) | (with_reducible refine Kd.C_drewN ?_ _) | (with_reducible refine Kd.C_drew ?_))); (case side2 => exact (Kd.S_reads' HO790.out).2.1); rintro e w99 ⟨v797, rfl, ho0, hb⟩; refine ⟨_, rfl, ?_⟩; have n0_ := Aside0.mk (Kd.R_elder' (kr HO779.out) (Kd.R_base ho0) hb); have n1_ := Aside0.mk (Kd.S_elder' (by (with_reducible repeat (first | apply Kd.S_alloc | apply Kd.S_drewN | apply Kd.S_drew)); exact HO783.out) (Kd.R_base ho0) hb); have n2_ := Aside0.mk (Kd.S_elder' (by (with_reducible repeat (first | apply Kd.S_alloc | apply Kd.S_drewN | apply Kd.S_drew)); exact HO787.out) (Kd.R_base ho0) hb); have n3_ := Aside0.mk (Kd.S_elder' (by (with_reducible repeat (first | apply Kd.S_alloc | apply Kd.S_drewN | apply Kd.S_drew)); exact HO790.out) (Kd.R_base ho0) hb); have n4_ := Aside0.mk (Kd.R_elder' (kr HO794.out) (Kd.R_base ho0) hb); have n5_ := Aside0.mk (Kd.R_lower (Kd.R_new' (Kd.R_new' ho0 (Kd.R_lt (kr HO779.out))) (Kd.R_lt (kr HO794.out))) (below_size (bl0 HB.out))); have n6_ := Aside0.mk (below_step (bl0 HB.out) hb); clear HO779; clear HO783; clear HO787; clear HO790; clear HO794; clear HB; have HO779 := n0_; have HO783 := n1_; have HO787 := n2_; have HO790 := n3_; have HO794 := n4_; have HO798 := n5_; have HB := n6_; clear n0_ n1_ n2_ n3_ n4_ n5_ n6_; (try clear hb); (try clear hb2); (try clear hk); (try clear hi); (try clear ho0); obtain ⟨Ao100, co100, eo100⟩ := Kd.S_slice HO783.out; subst eo100; obtain ⟨Ao101, co101, eo101⟩ := Kd.S_slice HO787.out; subst eo101) | (go_at_call 25; (with_reducible refine (laws_iRows.calls kj18 _ _ t780 _ _ t784 true _ ?side1 ?side2 ?side3 ?side4 A86.out).mono ?_); (case side1 => repeat (first | exact (Kd.S_reads' HO783.out).2.2 | (with_reducible refine Kd.C_alloc ?_ _) | (with_reducible refine Kd.C_drewN ?_ _) | (with_reducible refine Kd.C_drew ?_))); (case side2 => exact (Kd.S_reads' HO783.out).2.1); (case side3 => repeat (first | exact (Kd.S_reads' HO787.out).2.2 | (with_reducible refine Kd.C_alloc ?_ _) | (with_reducible refine Kd.C_drewN ?_ _) | (with_reducible refine Kd.C_drew ?_))); (case side4 => exact (Kd.S_reads' HO787.out).2.1); rintro e w' ⟨rfl, ⟨nd, rfl⟩⟩; obtain ⟨Ao102, co102, eo102⟩ := Kd.R_slice HO794.out; subst eo102; obtain ⟨Ao103, co103, eo103⟩ := Kd.R_slice HO798.out; subst eo103) | (go_at_call 11; (with_reducible refine (laws_iSame.calls kj18 _ _ t791 _ _ t795 true _ ?side1 ?side2 ?side3 ?side4 A89.out).mono ?_); (case side1 => repeat (first | exact (Kd.R_reads' HO794.out).2.2 | (with_reducible refine Kd.C_alloc ?_ _) | (with_reducible refine Kd.C_drewN ?_ _) | (with_reducible refine Kd.C_drew ?_))); (case side2 => exact (Kd.R_reads' HO794.out).2.1); (case side3 => repeat (first | exact (Kd.R_reads' HO798.out).2.2 | (with_reducible refine Kd.C_alloc ?_ _) | (with_reducible refine Kd.C_drewN ?_ _) | (with_reducible refine Kd.C_drew ?_))); (case side4 => exact (Kd.R_reads' HO798.out).2.1); rintro e w' ⟨rfl, ⟨nd, rfl⟩⟩))
              (try simp only [Act.put, List.setIfInBounds_toArray, List.set_cons_zero, List.set_cons_succ])
              refine cutF [ff, ff, ff, ff, tt, ff, ff, ff, ff, ff, ff, ff, ff, ff, ff, ff, ff, ff, ff, ff, ff, ff, ff, ff, ff, ff, ff, ff, ff, ff, ff, ff, ff, ff, ff, ff, ff, ff, ff, ff, ff, ff, ff, ff, tt, tt, ff, ff, ff, ff, ff, ff, ff, ff, ff, ff, ff, ff, ff, ff, ff, ff, ff, ff, ff, ff, ff, ff, ff, ff, ff, ff, ff, ff, ff, ff, ff, ff, ff, ff, ff, ff, ff, ff, ff, ff, ff, ff, ff, ff, ff, ff, tt, tt, tt, tt, tt, tt, tt, tt, tt, tt, tt, tt, tt, tt, tt, tt, tt, tt, tt, tt, tt, tt, tt, tt, tt, tt, tt, tt, tt, tt, tt, tt, tt, tt, tt, tt, tt, tt, tt, tt, tt, tt, tt, tt, tt, tt, tt, tt, tt, tt, tt, tt, tt, tt, tt, tt, tt, tt, tt, tt, tt, tt, tt, tt, tt, tt, tt, tt, tt, tt, tt, tt, tt, tt, tt, tt, tt, tt, tt, tt, tt, tt, tt, tt, tt, tt, tt, tt, tt, tt, tt, tt, tt, tt, tt, tt, tt, tt, tt, tt, tt, tt, tt, tt, tt, tt, tt, tt, tt, tt, tt, tt, tt, tt, tt, tt, tt, tt, tt, tt, tt, tt, tt, tt, tt, tt, tt, tt, tt, tt, tt, tt, tt, tt, tt, tt, tt, tt, tt, tt, tt, tt, tt, tt, tt, tt, tt, tt, tt, tt, tt, tt, tt, tt, tt, tt, tt, tt, tt, tt, tt, tt, tt, tt, tt, tt, tt, tt, tt, tt, tt, tt, tt, tt, tt, tt, tt, tt, tt, tt, tt, tt, tt, tt, tt, tt, tt, tt, tt, tt, tt, tt, tt, tt, tt, tt, tt, tt, tt, tt, tt, tt, tt, tt, tt, tt, tt, tt, tt, tt, tt, tt, tt, tt, tt, tt, tt, tt, tt, tt, tt, tt, tt, tt, tt, tt, tt, tt, tt, tt, tt, tt, tt, tt, tt, tt, tt, tt, tt, tt, tt, tt, tt, tt, tt, tt, tt, tt, tt, tt, ff, ff, ff, ff, ff, ff, ff, ff, ff, ff, ff, ff, ff, ff, ff, ff, ff, ff, ff, ff, ff, ff, ff, ff, ff, ff, ff, ff, ff, ff, ff, ff, ff, ff, ff, ff, ff, ff, ff, ff, ff, ff, ff, ff, ff, ff, ff, ff, ff, ff, ff, ff, ff, ff, ff, ff, ff, ff, ff, ff, ff, ff, ff, ff, ff, ff, ff, ff, ff, ff, ff, ff, ff, ff, ff, ff, ff, ff, ff, ff, ff, ff, ff, ff, ff, ff, ff, ff, ff, ff, ff, ff, ff, ff, ff, ff, ff, ff, ff, ff, ff, ff, ff, ff, ff, ff, ff, ff, ff, ff, ff, ff, ff, ff, ff, ff, ff, ff, ff, ff, ff, ff, ff, ff, ff, ff, ff, ff, ff, ff, ff, ff, ff, ff, ff, ff, ff, ff, ff, ff, ff, ff, ff, ff, ff, ff, ff, ff, ff, ff, ff, ff, ff, ff, ff, ff, ff, ff, ff, ff, ff, ff, ff, ff, ff, ff, ff, ff, ff, ff, ff, ff, ff, ff, ff, ff, ff, ff, ff, ff, ff, ff, ff, ff, ff, ff, ff, ff, ff, ff, ff, ff, ff, ff, ff, ff, ff, ff, ff, ff, ff, ff, ff, ff, ff, ff, ff, ff, ff, ff, ff, ff, ff, ff, ff, ff, ff, ff, ff, ff, ff, ff, ff, ff, ff, ff] (fun f_ wc => ∃ (kq : Nat), Aside0 (laws_FnPhasesWork.j2 kq l1 t788 t791 t792 = some r) ∧ Aside0 (kq ≤ kj18) ∧ Aside0 (Kd.S (Kd.slice 3 (Kd.int .i64)) 24 wc w.heap.size (fun k_ => some k_ ≠ ((.slice Ao102 t791.length co102) : Value).ownBlock) (.slice Ao97 t788.length co97) t788) ∧ Aside0 (Kd.R (Kd.int .i64) 3 wc w.heap.size (fun _ => True) (.slice Ao102 t791.length co102) t791) ∧ Aside0 (Below w.heap.size w wc)) ?first_j2 ?rest_j2
              case first_j2 => as_aux_lemma =>
               intro J_ K_ hJ_j2 hK_
               have H := HC91.out
               clear HC91
               by_cases c104 : t781 = true
               ·subst c104
                rw [if_pos rfl] at H
                replace H := Option.bind_eq_some_iff.mp H
                obtain ⟨⟨t801, t802⟩, A1050, H⟩ := H
                (try dsimp only at H)
                have A105 := Aside0.mk A1050
                clear A1050
                by_cases c106 : t802 = true
                ·subst c106
                 rw [if_pos rfl] at H
                 replace H := Option.bind_eq_some_iff.mp H
                 obtain ⟨t805, A1070, H⟩ := H
                 (try dsimp only at H)
                 have A107 := Aside0.mk A1070
                 clear A1070
                 by_cases c108 : t805 = true
                 ·subst c108
                  rw [if_pos rfl] at H
                  by_cases c109 : (t780.length : Int) = t777
                  ·rw [if_pos c109] at H
                   have c109b0 : ((t780.length : Int) == t777) = true := beq_iff_eq.mpr c109
                   have c109b1 : ((t780.length : Int) != t777) = false := bne_eq_false_iff_eq.mpr c109
                   clear c109
                   (first | rw [c109b0] | (simp only [i64_w, i32_w]; rw [c109b0]) | skip)
                   have H' := Aside0.mk H
                   clear H
                   go_wp2_with (first | ((with_reducible refine gate_callee (f := 23) rfl ?_); refine goesLS_ (some 325) Try.func23 #[.slice Ao100 t780.length co100] ?_; (with_reducible refine (impl_JoinPhases.calls kj18 _ _ t780 t801 true _ ?side1 ?side2 A105.out).mono ?_); (case side1 => repeat (first | exact (Kd.S_reads' HO783.out).2.2 | (with_reducible refine Kd.C_alloc ?_ _) | (with_reducible refine Kd.C_drewN ?_ _) | (with_reducible refine Kd.C_drew ?_))); (case side2 => exact (Kd.S_reads' HO783.out).2.1); rintro e w110 ⟨v803, rfl, ho0, hb⟩; refine ⟨_, rfl, ?_⟩; have n0_ := Aside0.mk (Kd.R_elder' (kr HO779.out) (Kd.R_base ho0) hb); have n1_ := Aside0.mk (Kd.S_elder' (by (with_reducible repeat (first | apply Kd.S_alloc | apply Kd.S_drewN | apply Kd.S_drew)); exact HO783.out) (Kd.R_base ho0) hb); have n2_ := Aside0.mk (Kd.S_elder' (by (with_reducible repeat (first | apply Kd.S_alloc | apply Kd.S_drewN | apply Kd.S_drew)); exact HO787.out) (Kd.R_base ho0) hb); have n3_ := Aside0.mk (Kd.S_elder' (by (with_reducible repeat (first | apply Kd.S_alloc | apply Kd.S_drewN | apply Kd.S_drew)); exact HO790.out) (Kd.R_base ho0) hb); have n4_ := Aside0.mk (Kd.R_elder' (kr HO794.out) (Kd.R_base ho0) hb); have n5_ := Aside0.mk (Kd.R_elder' (kr HO798.out) (Kd.R_base ho0) hb); have n6_ := Aside0.mk (Kd.R_lower (Kd.R_new' (Kd.R_new' (Kd.R_new' ho0 (Kd.R_lt (kr HO779.out))) (Kd.R_lt (kr HO794.out))) (Kd.R_lt (kr HO798.out))) (below_size (bl0 HB.out))); have n7_ := Aside0.mk (below_step (bl0 HB.out) hb); clear HO779; clear HO783; clear HO787; clear HO790; clear HO794; clear HO798; clear HB; have HO779 := n0_; have HO783 := n1_; have HO787 := n2_; have HO790 := n3_; have HO794 := n4_; have HO798 := n5_; have HO804 := n6_; have HB := n7_; clear n0_ n1_ n2_ n3_ n4_ n5_ n6_ n7_; (try clear hb); (try clear hb2); (try clear hk); (try clear hi); (try clear ho0); obtain ⟨Ao111, co111, eo111⟩ := Kd.R_slice HO804.out; subst eo111) | (go_at_call 11; (with_reducible refine (laws_iSame.calls kj18 _ _ t801 _ _ t776 true _ ?side1 ?side2 ?side3 ?side4 A107.out).mono ?_); (case side1 => repeat (first | exact (Kd.R_reads' HO804.out).2.2 | (with_reducible refine Kd.C_alloc ?_ _) | (with_reducible refine Kd.C_drewN ?_ _) | (with_reducible refine Kd.C_drew ?_))); (case side2 => exact (Kd.R_reads' HO804.out).2.1); (case side3 => repeat (first | exact (Kd.R_reads' HO779.out).2.2 | (with_reducible refine Kd.C_alloc ?_ _) | (with_reducible refine Kd.C_drewN ?_ _) | (with_reducible refine Kd.C_drew ?_))); (case side4 => exact (Kd.R_reads' HO779.out).2.1); rintro e w' ⟨rfl, ⟨nd, rfl⟩⟩))
                   refine meetF hJ_j2 (by kernel_rfl) (by kernel_rfl) ?rel_z112
                   case rel_z112 => (try simp only [List.getD_cons_succ, List.getD_cons_zero]); exact ⟨_, H', ⟨by have := HJ18.out; first | omega | exact Nat.le_refl _⟩, ⟨by (with_reducible repeat (first | apply Kd.S_alloc | apply Kd.S_drewN | apply Kd.S_drew)); exact Kd.S_mono HO790.out (fun _ hk => hk.1.1.2)⟩, ⟨by (with_reducible repeat (first | apply Kd.R_alloc | apply Kd.R_drewN | apply Kd.R_drew)); exact Kd.R_mono HO794.out (fun _ hk => trivial)⟩, ⟨bl0 HB.out⟩⟩
                  ·rw [if_neg c109] at H
                   have c109b0 : ((t780.length : Int) == t777) = false := beq_eq_false_iff_ne.mpr c109
                   have c109b1 : ((t780.length : Int) != t777) = true := bne_iff_ne.mpr c109
                   (first | rw [c109b0] | (simp only [i64_w, i32_w]; rw [c109b0]) | skip)
                   obtain rfl := Option.some.inj H
                   exact absurd HT.out (by simp)
                 ·replace c108 := Bool.eq_false_iff.mpr c108
                  subst c108
                  rw [if_neg (show ¬ (false = true) by decide)] at H
                  obtain rfl := Option.some.inj H
                  exact absurd HT.out (by simp)
                ·replace c106 := Bool.eq_false_iff.mpr c106
                 subst c106
                 rw [if_neg (show ¬ (false = true) by decide)] at H
                 obtain rfl := Option.some.inj H
                 exact absurd HT.out (by simp)
               ·replace c104 := Bool.eq_false_iff.mpr c104
                subst c104
                rw [if_neg (show ¬ (false = true) by decide)] at H
                have H' := Aside0.mk H
                clear H
                go_wp2
                refine meetF hJ_j2 (by kernel_rfl) (by kernel_rfl) ?rel_z113
                case rel_z113 => (try simp only [List.getD_cons_succ, List.getD_cons_zero]); exact ⟨_, H', ⟨by have := HJ18.out; first | omega | exact Nat.le_refl _⟩, ⟨by (with_reducible repeat (first | apply Kd.S_alloc | apply Kd.S_drewN | apply Kd.S_drew)); exact Kd.S_mono HO790.out (fun _ hk => hk.1.2)⟩, ⟨by (with_reducible repeat (first | apply Kd.R_alloc | apply Kd.R_drewN | apply Kd.R_drew)); exact Kd.R_mono HO794.out (fun _ hk => trivial)⟩, ⟨bl0 HB.out⟩⟩
              case rest_j2 => as_aux_lemma =>
               intro f_ wc hcut
               dsimp only [ov]
               clear HC91
               try clear c1
               try clear c2
               try clear p2
               try clear c3
               try clear c4
               try clear c5
               try clear c6
               try clear c7
               try clear c8
               try clear c9
               try clear c10
               try clear c10b0
               try clear c10b1
               try clear c10b2
               try clear c12
               try clear c13
               try clear c13b0
               try clear c13b1
               try clear c13b2
               try clear c14
               try clear c15
               try clear c16
               try clear c16b0
               try clear c16b1
               try clear c16b2
               try clear c17
               try clear c18
               try clear c19
               try clear c20
               try clear c21
               try clear c22
               try clear c23
               try clear c24
               try clear c31
               try clear c35
               try clear c36
               try clear c36b0
               try clear c36b1
               try clear c37
               try clear c38
               try clear c39
               try clear c39b0
               try clear c45
               try clear c47
               try clear c49
               try clear c55
               try clear c55b0
               try clear c55b1
               try clear c58
               try clear c60
               try clear c61
               try clear c63
               try clear c65
               try clear c85
               try clear c85b0
               try clear c85b1
               try clear c85b2
               try clear c87
               try clear c88
               try clear c88b0
               try clear c88b1
               try clear c88b2
               try clear c90
               try clear c104
               try clear c106
               try clear c108
               try clear c109
               try clear c109b0
               try clear c109b1
               try clear p2
               obtain ⟨kq, HA, HJ90, HO_39, HO_40, HB⟩ := hcut
               cases kq with
               | zero => exact absurd HA.out (by simp [laws_FnPhasesWork.j2])
               | succ kj90 =>
                have H := HA.out
                clear HA
                simp only [laws_FnPhasesWork.j2] at H
                have HC114 := Aside0.mk H
                clear H
                go_upto_if 342 with (fail)
                refine cutF [ff, ff, ff, ff, tt, ff, ff, ff, ff, ff, ff, ff, ff, ff, ff, ff, ff, ff, ff, ff, ff, ff, ff, ff, ff, ff, ff, ff, ff, ff, ff, ff, ff, ff, ff, ff, ff, ff, ff, ff, ff, ff, ff, ff, ff, ff, tt, tt, ff, ff, ff, ff, ff, ff, ff, ff, ff, ff, ff, ff, ff, ff, ff, ff, ff, ff, ff, ff, ff, ff, ff, ff, ff, ff, ff, ff, ff, ff, ff, ff, ff, ff, ff, ff, ff, ff, ff, ff, ff, ff, ff, ff, tt, tt, tt, tt, tt, tt, tt, tt, tt, tt, tt, tt, tt, tt, tt, tt, tt, tt, tt, tt, tt, tt, tt, tt, tt, tt, tt, tt, tt, tt, tt, tt, tt, tt, tt, tt, tt, tt, tt, tt, tt, tt, tt, tt, tt, tt, tt, tt, tt, tt, tt, tt, tt, tt, tt, tt, tt, tt, tt, tt, tt, tt, tt, tt, tt, tt, tt, tt, tt, tt, tt, tt, tt, tt, tt, tt, tt, tt, tt, tt, tt, tt, tt, tt, tt, tt, tt, tt, tt, tt, tt, tt, tt, tt, tt, tt, tt, tt, tt, tt, tt, tt, tt, tt, tt, tt, tt, tt, tt, tt, tt, tt, tt, tt, tt, tt, tt, tt, tt, tt, tt, tt, tt, tt, tt, tt, tt, tt, tt, tt, tt, tt, tt, tt, tt, tt, tt, tt, tt, tt, tt, tt, tt, tt, tt, tt, tt, tt, tt, tt, tt, tt, tt, tt, tt, tt, tt, tt, tt, tt, tt, tt, tt, tt, tt, tt, tt, tt, tt, tt, tt, tt, tt, tt, tt, tt, tt, tt, tt, tt, tt, tt, tt, tt, tt, tt, tt, tt, tt, tt, tt, tt, tt, tt, tt, tt, tt, tt, tt, tt, tt, tt, tt, tt, tt, tt, tt, tt, tt, tt, tt, tt, tt, tt, tt, tt, tt, tt, tt, tt, tt, tt, tt, tt, tt, tt, tt, tt, tt, tt, tt, tt, tt, tt, tt, tt, tt, tt, tt, tt, tt, tt, tt, tt, tt, tt, tt, tt, tt, tt, tt, tt, tt, tt, tt, tt, tt, tt, tt, tt, tt, tt, tt, tt, tt, tt, ff, ff, ff, ff, ff, ff, ff, ff, ff, ff, ff, ff, ff, ff, ff, ff, ff, ff, ff, ff, ff, ff, ff, ff, ff, ff, ff, ff, ff, ff, ff, ff, ff, ff, ff, ff, ff, ff, ff, ff, ff, ff, ff, ff, ff, ff, ff, ff, ff, ff, ff, ff, ff, ff, ff, ff, ff, ff, ff, ff, ff, ff, ff, ff, ff, ff, ff, ff, ff, ff, ff, ff, ff, ff, ff, ff, ff, ff, ff, ff, ff, ff, ff, ff, ff, ff, ff, ff, ff, ff, ff, ff, ff, ff, ff, ff, ff, ff, ff, ff, ff, ff, ff, ff, ff, ff, ff, ff, ff, ff, ff, ff, ff, ff, ff, ff, ff, ff, ff, ff, ff, ff, ff, ff, ff, ff, ff, ff, ff, ff, ff, ff, ff, ff, ff, ff, ff, ff, ff, ff, ff, ff, ff, ff, ff, ff, ff, ff, ff, ff, ff, ff, ff, ff, ff, ff, ff, ff, ff, ff, ff, ff, ff, ff, ff, ff, ff, ff, ff, ff, ff, ff, ff, ff, ff, ff, ff, ff, ff, ff, ff, ff, ff, ff, ff, ff, ff, ff, ff, ff, ff, ff, ff, ff, ff, ff, ff, ff, ff, ff, ff, ff, ff, ff, ff, ff, ff, ff, ff, ff] (fun f_ wc => ∃ (kq : Nat), Aside0 (laws_FnPhasesWork.j3 kq l1 = some r) ∧ Aside0 (kq ≤ kj90) ∧ Aside0 (Below w.heap.size w wc)) ?first_j3 ?rest_j3
                case first_j3 => as_aux_lemma =>
                 intro J_ K_ hJ_j3 hK_
                 have H := HC114.out
                 clear HC114
                 by_cases c115 : t792 = true
                 ·subst c115
                  rw [if_pos rfl] at H
                  replace H := Option.bind_eq_some_iff.mp H
                  obtain ⟨⟨t806, t807⟩, A1160, H⟩ := H
                  (try dsimp only at H)
                  have A116 := Aside0.mk A1160
                  clear A1160
                  by_cases c117 : t807 = true
                  ·subst c117
                   rw [if_pos rfl] at H
                   replace H := Option.bind_eq_some_iff.mp H
                   obtain ⟨t810, A1180, H⟩ := H
                   (try dsimp only at H)
                   have A118 := Aside0.mk A1180
                   clear A1180
                   by_cases c119 : t810 = true
                   ·subst c119
                    rw [if_pos rfl] at H
                    have H' := Aside0.mk H
                    clear H
                    go_wp2_with (first | ((with_reducible refine gate_callee (f := 20) rfl ?_); refine goesLS_ (some 347) Try.func20 #[.slice Ao102 t791.length co102, .int .i64 (t788.length : Int)] ?_; (with_reducible refine (impl_PhasesOf.calls kj90 _ _ t791 (t788.length : Int) t806 true _ ?side1 ?side2 A116.out).mono ?_); (case side1 => repeat (first | exact (Kd.R_reads' HO_40.out).2.2 | (with_reducible refine Kd.C_alloc ?_ _) | (with_reducible refine Kd.C_drewN ?_ _) | (with_reducible refine Kd.C_drew ?_))); (case side2 => exact (Kd.R_reads' HO_40.out).2.1); rintro e w120 ⟨v808, rfl, ho0, hb⟩; refine ⟨_, rfl, ?_⟩; have n0_ := Aside0.mk (Kd.S_elder' (by (with_reducible repeat (first | apply Kd.S_alloc | apply Kd.S_drewN | apply Kd.S_drew)); exact HO_39.out) (Kd.S_base ho0) hb); have n1_ := Aside0.mk (Kd.R_below (kr HO_40.out) hb); have n2_ := Aside0.mk (Kd.S_lower (Kd.S_new' (Kd.S_new' ho0 (Kd.S_lt (by (with_reducible repeat (first | apply Kd.S_alloc | apply Kd.S_drewN | apply Kd.S_drew)); exact HO_39.out))) (Kd.R_lt (kr HO_40.out))) (below_size (bl0 HB.out))); have n3_ := Aside0.mk (below_step (bl0 HB.out) hb); clear HO_39; clear HO_40; clear HB; have HO_39 := n0_; have HO_40 := n1_; have HO809 := n2_; have HB := n3_; clear n0_ n1_ n2_ n3_; (try clear hb); (try clear hb2); (try clear hk); (try clear hi); (try clear ho0); obtain ⟨Ao121, co121, eo121⟩ := Kd.S_slice HO809.out; subst eo121) | (go_at_call 25; (with_reducible refine (laws_iRows.calls kj90 _ _ t806 _ _ t788 true _ ?side1 ?side2 ?side3 ?side4 A118.out).mono ?_); (case side1 => repeat (first | exact (Kd.S_reads' HO809.out).2.2 | (with_reducible refine Kd.C_alloc ?_ _) | (with_reducible refine Kd.C_drewN ?_ _) | (with_reducible refine Kd.C_drew ?_))); (case side2 => exact (Kd.S_reads' HO809.out).2.1); (case side3 => repeat (first | exact (Kd.S_reads' HO_39.out).2.2 | (with_reducible refine Kd.C_alloc ?_ _) | (with_reducible refine Kd.C_drewN ?_ _) | (with_reducible refine Kd.C_drew ?_))); (case side4 => exact (Kd.S_reads' HO_39.out).2.1); rintro e w' ⟨rfl, ⟨nd, rfl⟩⟩))
                    refine meetF hJ_j3 (by kernel_rfl) (by kernel_rfl) ?rel_z122
                    case rel_z122 => (try simp only [List.getD_cons_succ, List.getD_cons_zero]); exact ⟨_, H', ⟨by have := HJ18.out; have := HJ90.out; first | omega | exact Nat.le_refl _⟩, ⟨bl0 HB.out⟩⟩
                   ·replace c119 := Bool.eq_false_iff.mpr c119
                    subst c119
                    rw [if_neg (show ¬ (false = true) by decide)] at H
                    obtain rfl := Option.some.inj H
                    exact absurd HT.out (by simp)
                  ·replace c117 := Bool.eq_false_iff.mpr c117
                   subst c117
                   rw [if_neg (show ¬ (false = true) by decide)] at H
                   obtain rfl := Option.some.inj H
                   exact absurd HT.out (by simp)
                 ·replace c115 := Bool.eq_false_iff.mpr c115
                  subst c115
                  rw [if_neg (show ¬ (false = true) by decide)] at H
                  have H' := Aside0.mk H
                  clear H
                  go_wp2
                  refine meetF hJ_j3 (by kernel_rfl) (by kernel_rfl) ?rel_z123
                  case rel_z123 => (try simp only [List.getD_cons_succ, List.getD_cons_zero]); exact ⟨_, H', ⟨by have := HJ18.out; have := HJ90.out; first | omega | exact Nat.le_refl _⟩, ⟨bl0 HB.out⟩⟩
                case rest_j3 => as_aux_lemma =>
                 intro f_ wc hcut
                 dsimp only [ov]
                 clear HC114
                 try clear c1
                 try clear c2
                 try clear p2
                 try clear c3
                 try clear c4
                 try clear c5
                 try clear c6
                 try clear c7
                 try clear c8
                 try clear c9
                 try clear c10
                 try clear c10b0
                 try clear c10b1
                 try clear c10b2
                 try clear c11
                 try clear c12
                 try clear c13
                 try clear c13b0
                 try clear c13b1
                 try clear c13b2
                 try clear c14
                 try clear c15
                 try clear c16
                 try clear c16b0
                 try clear c16b1
                 try clear c16b2
                 try clear c17
                 try clear c18
                 try clear c19
                 try clear c20
                 try clear c21
                 try clear c22
                 try clear c23
                 try clear c24
                 try clear c31
                 try clear c35
                 try clear c36
                 try clear c36b0
                 try clear c36b1
                 try clear c37
                 try clear c38
                 try clear c39
                 try clear c39b0
                 try clear c45
                 try clear c47
                 try clear c49
                 try clear c55
                 try clear c55b0
                 try clear c55b1
                 try clear c58
                 try clear c60
                 try clear c61
                 try clear c63
                 try clear c65
                 try clear c85
                 try clear c85b0
                 try clear c85b1
                 try clear c85b2
                 try clear c87
                 try clear c88
                 try clear c88b0
                 try clear c88b1
                 try clear c88b2
                 try clear c90
                 try clear c104
                 try clear c106
                 try clear c108
                 try clear c109
                 try clear c109b0
                 try clear c109b1
                 try clear c115
                 try clear c117
                 try clear c119
                 try clear p2
                 obtain ⟨kq, HA, HJ113, HB⟩ := hcut
                 cases kq with
                 | zero => exact absurd HA.out (by simp [laws_FnPhasesWork.j3])
                 | succ kj113 =>
                  have H := HA.out
                  clear HA
                  simp only [laws_FnPhasesWork.j3] at H
                  replace H := Option.bind_eq_some_iff.mp H
                  obtain ⟨t811, A1240, H⟩ := H
                  (try dsimp only at H)
                  have A124 := Aside0.mk A1240
                  clear A1240
                  replace H := Option.bind_eq_some_iff.mp H
                  obtain ⟨⟨t814, t815, t816⟩, A1250, H⟩ := H
                  (try dsimp only at H)
                  have A125 := Aside0.mk A1250
                  clear A1250
                  replace H := Option.bind_eq_some_iff.mp H
                  obtain ⟨⟨t821, t822, t823⟩, A1260, H⟩ := H
                  (try dsimp only at H)
                  have A126 := Aside0.mk A1260
                  clear A1260
                  replace H := Option.bind_eq_some_iff.mp H
                  obtain ⟨⟨t828, t829⟩, A1270, H⟩ := H
                  (try dsimp only at H)
                  have A127 := Aside0.mk A1270
                  clear A1270
                  replace H := Option.bind_eq_some_iff.mp H
                  obtain ⟨⟨t834, t835⟩, A1280, H⟩ := H
                  (try dsimp only at H)
                  have A128 := Aside0.mk A1280
                  clear A1280
                  replace H := Option.bind_eq_some_iff.mp H
                  obtain ⟨⟨t838, t839⟩, A1290, H⟩ := H
                  (try dsimp only at H)
                  have A129 := Aside0.mk A1290
                  clear A1290
                  by_cases c130 : (t816 != t823) = true
                  ·rw [if_pos c130] at H
                   have c130b0 : (t816 != t823) = true := c130
                   (try (have c130b1 : decide (t816 = t823) = false := by simpa using c130))
                   (try (have c130b2 : (t816 == t823) = false := by simpa using c130))
                   (try (have c130b3 : ¬ (t816 = t823) := by simpa using c130))
                   clear c130
                   obtain rfl := Option.some.inj H
                   exact absurd HT.out (by simp)
                  ·rw [if_neg c130] at H
                   have c130b0 : (t816 != t823) = false := by simpa using c130
                   (try (have c130b1 : decide (t816 = t823) = true := by simpa using c130))
                   (try (have c130b2 : (t816 == t823) = true := by simpa using c130))
                   clear c130
                   replace H := Option.bind_eq_some_iff.mp H
                   obtain ⟨t842, A1310, H⟩ := H
                   (try dsimp only at H)
                   have A131 := Aside0.mk A1310
                   clear A1310
                   by_cases c132 : t842 = true
                   ·subst c132
                    rw [if_pos rfl] at H
                    replace H := Option.bind_eq_some_iff.mp H
                    obtain ⟨t843, A1330, H⟩ := H
                    (try dsimp only at H)
                    have A133 := Aside0.mk A1330
                    clear A1330
                    by_cases c134 : t843 = true
                    ·subst c134
                     rw [if_pos rfl] at H
                     by_cases c135 : (t835 != t839) = true
                     ·rw [if_pos c135] at H
                      have c135b0 : (t835 != t839) = true := c135
                      (try (have c135b1 : decide (t835 = t839) = false := by simpa using c135))
                      (try (have c135b2 : (t835 == t839) = false := by simpa using c135))
                      (try (have c135b3 : ¬ (t835 = t839) := by simpa using c135))
                      clear c135
                      obtain rfl := Option.some.inj H
                      exact absurd HT.out (by simp)
                     ·rw [if_neg c135] at H
                      have c135b0 : (t835 != t839) = false := by simpa using c135
                      (try (have c135b1 : decide (t835 = t839) = true := by simpa using c135))
                      (try (have c135b2 : (t835 == t839) = true := by simpa using c135))
                      clear c135
                      replace H := Option.bind_eq_some_iff.mp H
                      obtain ⟨t844, A1360, H⟩ := H
                      (try dsimp only at H)
                      have A136 := Aside0.mk A1360
                      clear A1360
                      by_cases c137 : t844 = true
                      ·subst c137
                       rw [if_pos rfl] at H
                       have HC138 := Aside0.mk H
                       clear H
                       go_upto_if 415 with (first | ((with_reducible refine gate_callee (f := 26) rfl ?_); refine goesLS_ (some 359) Try.func26 #[.slice A1 l1.length c1] ?_; (with_reducible refine (spec_DrawTwoBands.calls kj113 _ _ l1 t811 _ ?side1 ?side2 A124.out).mono ?_); (case side1 => repeat (first | exact (Kd.C_below HR1.out HB.out) | (with_reducible refine Kd.C_alloc ?_ _) | (with_reducible refine Kd.C_drewN ?_ _) | (with_reducible refine Kd.C_drew ?_))); (case side2 => exact HC1.out); rintro e w139 ⟨v812, rfl, ho0, hb⟩; refine ⟨_, rfl, ?_⟩; have n0_ := Aside0.mk (Kd.Q_lower ho0 (below_size (bl0 HB.out))); have n1_ := Aside0.mk (below_step (bl0 HB.out) hb); clear HB; have HO813 := n0_; have HB := n1_; clear n0_ n1_; (try clear hb); (try clear hb2); (try clear hk); (try clear hi); (try clear ho0); obtain ⟨Ao140, co140, eo140, _⟩ := Kd.Q_slice HO813.out; subst eo140) | ((with_reducible refine gate_callee (f := 27) rfl ?_); refine goesLS_ (some 362) Try.func27 #[.slice Ao140 t811.length co140] ?_; (with_reducible refine (impl_TwoBands.calls kj113 _ _ t811 t814 t815 t816 _ ?side1 ?side2 A125.out).mono ?_); (case side1 => repeat (first | exact (Kd.Q_reads' HO813.out).2.2 | (with_reducible refine Kd.C_alloc ?_ _) | (with_reducible refine Kd.C_drewN ?_ _) | (with_reducible refine Kd.C_drew ?_))); (case side2 => exact (Kd.Q_reads' HO813.out).2.1); rintro e w141 ⟨v817, v819, rfl, ho0, ho1, hb⟩; refine ⟨_, rfl, ?_⟩; have n0_ := Aside0.mk (Kd.Q_mono (Kd.Q_told (Kd.Q_told (Kd.Q_old (by (with_reducible repeat (first | apply Kd.Q_alloc | apply Kd.Q_drewN | apply Kd.Q_drew)); exact HO813.out) hb) (Kd.R_base ho0)) (Kd.R_base ho1)) (fun _ h_ => h_.1)); have n1_ := Aside0.mk (Kd.R_lower (Kd.R_new' ho0 (Kd.Q_lt (by (with_reducible repeat (first | apply Kd.Q_alloc | apply Kd.Q_drewN | apply Kd.Q_drew)); exact HO813.out))) (below_size (bl0 HB.out))); have n2_ := Aside0.mk (Kd.R_lower (Kd.R_new' ho1 (Kd.Q_lt (by (with_reducible repeat (first | apply Kd.Q_alloc | apply Kd.Q_drewN | apply Kd.Q_drew)); exact HO813.out))) (below_size (bl0 HB.out))); have n3_ := Aside0.mk (below_step (bl0 HB.out) hb); clear HO813; clear HB; have HO813 := n0_; have HO818 := n1_; have HO820 := n2_; have HB := n3_; clear n0_ n1_ n2_ n3_; (try clear hb); (try clear hb2); (try clear hk); (try clear hi); (try clear ho0); (try clear ho1)) | ((with_reducible refine gate_callee (f := 28) rfl ?_); refine goesLS_ (some 368) Try.func28 #[.slice Ao140 t811.length co140] ?_; (with_reducible refine (spec_TwoBands.calls kj113 _ _ t811 t821 t822 t823 _ ?side1 ?side2 A126.out).mono ?_); (case side1 => repeat (first | exact (Kd.Q_reads' HO813.out).2.2 | (with_reducible refine Kd.C_alloc ?_ _) | (with_reducible refine Kd.C_drewN ?_ _) | (with_reducible refine Kd.C_drew ?_))); (case side2 => exact (Kd.Q_reads' HO813.out).2.1); rintro e w142 ⟨v824, v826, rfl, ho0, ho1, hb⟩; refine ⟨_, rfl, ?_⟩; have n0_ := Aside0.mk (Kd.Q_mono (Kd.Q_told (Kd.Q_told (Kd.Q_old (by (with_reducible repeat (first | apply Kd.Q_alloc | apply Kd.Q_drewN | apply Kd.Q_drew)); exact HO813.out) hb) (Kd.R_base ho0)) (Kd.R_base ho1)) (fun _ h_ => h_.1)); have n1_ := Aside0.mk (Kd.R_mono (Kd.R_told (Kd.R_told (Kd.R_old (kr HO818.out) hb) (Kd.R_base ho0)) (Kd.R_base ho1)) (fun _ h_ => h_.1)); have n2_ := Aside0.mk (Kd.R_mono (Kd.R_told (Kd.R_told (Kd.R_old (kr HO820.out) hb) (Kd.R_base ho0)) (Kd.R_base ho1)) (fun _ h_ => h_.1)); have n3_ := Aside0.mk (Kd.R_lower (Kd.R_new' (Kd.R_new' (Kd.R_new' ho0 (Kd.Q_lt (by (with_reducible repeat (first | apply Kd.Q_alloc | apply Kd.Q_drewN | apply Kd.Q_drew)); exact HO813.out))) (Kd.R_lt (kr HO818.out))) (Kd.R_lt (kr HO820.out))) (below_size (bl0 HB.out))); have n4_ := Aside0.mk (Kd.R_lower (Kd.R_new' (Kd.R_new' (Kd.R_new' ho1 (Kd.Q_lt (by (with_reducible repeat (first | apply Kd.Q_alloc | apply Kd.Q_drewN | apply Kd.Q_drew)); exact HO813.out))) (Kd.R_lt (kr HO818.out))) (Kd.R_lt (kr HO820.out))) (below_size (bl0 HB.out))); have n5_ := Aside0.mk (below_step (bl0 HB.out) hb); clear HO813; clear HO818; clear HO820; clear HB; have HO813 := n0_; have HO818 := n1_; have HO820 := n2_; have HO825 := n3_; have HO827 := n4_; have HB := n5_; clear n0_ n1_ n2_ n3_ n4_ n5_; (try clear hb); (try clear hb2); (try clear hk); (try clear hi); (try clear ho0); (try clear ho1)) | ((with_reducible refine gate_callee (f := 29) rfl ?_); refine goesLS_ (some 374) Try.func29 #[.slice A1 l1.length c1] ?_; (with_reducible refine (spec_DrawJoinBands.calls kj113 _ _ l1 t828 t829 _ ?side1 ?side2 A127.out).mono ?_); (case side1 => repeat (first | exact (Kd.C_below HR1.out HB.out) | (with_reducible refine Kd.C_alloc ?_ _) | (with_reducible refine Kd.C_drewN ?_ _) | (with_reducible refine Kd.C_drew ?_))); (case side2 => exact HC1.out); rintro e w143 ⟨v830, v832, rfl, ho0, ho1, hb⟩; refine ⟨_, rfl, ?_⟩; have n0_ := Aside0.mk (Kd.Q_mono (Kd.Q_told (Kd.Q_told (Kd.Q_old (by (with_reducible repeat (first | apply Kd.Q_alloc | apply Kd.Q_drewN | apply Kd.Q_drew)); exact HO813.out) hb) (Kd.R_base ho0)) (Kd.R_base ho1)) (fun _ h_ => h_.1)); have n1_ := Aside0.mk (Kd.R_mono (Kd.R_told (Kd.R_told (Kd.R_old (kr HO818.out) hb) (Kd.R_base ho0)) (Kd.R_base ho1)) (fun _ h_ => h_.1)); have n2_ := Aside0.mk (Kd.R_mono (Kd.R_told (Kd.R_told (Kd.R_old (kr HO820.out) hb) (Kd.R_base ho0)) (Kd.R_base ho1)) (fun _ h_ => h_.1)); have n3_ := Aside0.mk (Kd.R_mono (Kd.R_told (Kd.R_told (Kd.R_old (kr HO825.out) hb) (Kd.R_base ho0)) (Kd.R_base ho1)) (fun _ h_ => h_.1)); have n4_ := Aside0.mk (Kd.R_mono (Kd.R_told (Kd.R_told (Kd.R_old (kr HO827.out) hb) (Kd.R_base ho0)) (Kd.R_base ho1)) (fun _ h_ => h_.1)); have n5_ := Aside0.mk (Kd.R_lower (Kd.R_new' (Kd.R_new' (Kd.R_new' (Kd.R_new' (Kd.R_new' ho0 (Kd.Q_lt (by (with_reducible repeat (first | apply Kd.Q_alloc | apply Kd.Q_drewN | apply Kd.Q_drew)); exact HO813.out))) (Kd.R_lt (kr HO818.out))) (Kd.R_lt (kr HO820.out))) (Kd.R_lt (kr HO825.out))) (Kd.R_lt (kr HO827.out))) (below_size (bl0 HB.out))); have n6_ := Aside0.mk (Kd.R_lower (Kd.R_new' (Kd.R_new' (Kd.R_new' (Kd.R_new' (Kd.R_new' ho1 (Kd.Q_lt (by (with_reducible repeat (first | apply Kd.Q_alloc | apply Kd.Q_drewN | apply Kd.Q_drew)); exact HO813.out))) (Kd.R_lt (kr HO818.out))) (Kd.R_lt (kr HO820.out))) (Kd.R_lt (kr HO825.out))) (Kd.R_lt (kr HO827.out))) (below_size (bl0 HB.out))); have n7_ := Aside0.mk (below_step (bl0 HB.out) hb); clear HO813; clear HO818; clear HO820; clear HO825; clear HO827; clear HB; have HO813 := n0_; have HO818 := n1_; have HO820 := n2_; have HO825 := n3_; have HO827 := n4_; have HO831 := n5_; have HO833 := n6_; have HB := n7_; clear n0_ n1_ n2_ n3_ n4_ n5_ n6_ n7_; (try clear hb); (try clear hb2); (try clear hk); (try clear hi); (try clear ho0); (try clear ho1); obtain ⟨Ao144, co144, eo144⟩ := Kd.R_slice HO831.out; subst eo144; obtain ⟨Ao145, co145, eo145⟩ := Kd.R_slice HO833.out; subst eo145) | ((with_reducible refine gate_callee (f := 30) rfl ?_); refine goesLS_ (some 380) Try.func30 #[.slice Ao144 t828.length co144, .slice Ao145 t829.length co145] ?_; (with_reducible refine (impl_JoinBands.calls kj113 _ _ t828 _ _ t829 t834 t835 _ ?side1 ?side2 ?side3 ?side4 A128.out).mono ?_); (case side1 => repeat (first | exact (Kd.R_reads' HO831.out).2.2 | (with_reducible refine Kd.C_alloc ?_ _) | (with_reducible refine Kd.C_drewN ?_ _) | (with_reducible refine Kd.C_drew ?_))); (case side2 => exact (Kd.R_reads' HO831.out).2.1); (case side3 => repeat (first | exact (Kd.R_reads' HO833.out).2.2 | (with_reducible refine Kd.C_alloc ?_ _) | (with_reducible refine Kd.C_drewN ?_ _) | (with_reducible refine Kd.C_drew ?_))); (case side4 => exact (Kd.R_reads' HO833.out).2.1); rintro e w146 ⟨v836, rfl, ho0, hb⟩; refine ⟨_, rfl, ?_⟩; have n0_ := Aside0.mk (Kd.Q_elder' (by (with_reducible repeat (first | apply Kd.Q_alloc | apply Kd.Q_drewN | apply Kd.Q_drew)); exact HO813.out) (Kd.R_base ho0) hb); have n1_ := Aside0.mk (Kd.R_elder' (kr HO818.out) (Kd.R_base ho0) hb); have n2_ := Aside0.mk (Kd.R_elder' (kr HO820.out) (Kd.R_base ho0) hb); have n3_ := Aside0.mk (Kd.R_elder' (kr HO825.out) (Kd.R_base ho0) hb); have n4_ := Aside0.mk (Kd.R_elder' (kr HO827.out) (Kd.R_base ho0) hb); have n5_ := Aside0.mk (Kd.R_elder' (kr HO831.out) (Kd.R_base ho0) hb); have n6_ := Aside0.mk (Kd.R_elder' (kr HO833.out) (Kd.R_base ho0) hb); have n7_ := Aside0.mk (Kd.R_lower (Kd.R_new' (Kd.R_new' (Kd.R_new' (Kd.R_new' (Kd.R_new' (Kd.R_new' (Kd.R_new' ho0 (Kd.Q_lt (by (with_reducible repeat (first | apply Kd.Q_alloc | apply Kd.Q_drewN | apply Kd.Q_drew)); exact HO813.out))) (Kd.R_lt (kr HO818.out))) (Kd.R_lt (kr HO820.out))) (Kd.R_lt (kr HO825.out))) (Kd.R_lt (kr HO827.out))) (Kd.R_lt (kr HO831.out))) (Kd.R_lt (kr HO833.out))) (below_size (bl0 HB.out))); have n8_ := Aside0.mk (below_step (bl0 HB.out) hb); clear HO813; clear HO818; clear HO820; clear HO825; clear HO827; clear HO831; clear HO833; clear HB; have HO813 := n0_; have HO818 := n1_; have HO820 := n2_; have HO825 := n3_; have HO827 := n4_; have HO831 := n5_; have HO833 := n6_; have HO837 := n7_; have HB := n8_; clear n0_ n1_ n2_ n3_ n4_ n5_ n6_ n7_ n8_; (try clear hb); (try clear hb2); (try clear hk); (try clear hi); (try clear ho0)) | ((with_reducible refine gate_callee (f := 31) rfl ?_); refine goesLS_ (some 386) Try.func31 #[.slice Ao144 t828.length co144, .slice Ao145 t829.length co145] ?_; (with_reducible refine (spec_JoinBands.calls kj113 _ _ t828 _ _ t829 t838 t839 _ ?side1 ?side2 ?side3 ?side4 A129.out).mono ?_); (case side1 => repeat (first | exact (Kd.R_reads' HO831.out).2.2 | (with_reducible refine Kd.C_alloc ?_ _) | (with_reducible refine Kd.C_drewN ?_ _) | (with_reducible refine Kd.C_drew ?_))); (case side2 => exact (Kd.R_reads' HO831.out).2.1); (case side3 => repeat (first | exact (Kd.R_reads' HO833.out).2.2 | (with_reducible refine Kd.C_alloc ?_ _) | (with_reducible refine Kd.C_drewN ?_ _) | (with_reducible refine Kd.C_drew ?_))); (case side4 => exact (Kd.R_reads' HO833.out).2.1); rintro e w147 ⟨v840, rfl, ho0, hb⟩; refine ⟨_, rfl, ?_⟩; have n0_ := Aside0.mk (Kd.Q_elder' (by (with_reducible repeat (first | apply Kd.Q_alloc | apply Kd.Q_drewN | apply Kd.Q_drew)); exact HO813.out) (Kd.R_base ho0) hb); have n1_ := Aside0.mk (Kd.R_elder' (kr HO818.out) (Kd.R_base ho0) hb); have n2_ := Aside0.mk (Kd.R_elder' (kr HO820.out) (Kd.R_base ho0) hb); have n3_ := Aside0.mk (Kd.R_elder' (kr HO825.out) (Kd.R_base ho0) hb); have n4_ := Aside0.mk (Kd.R_elder' (kr HO827.out) (Kd.R_base ho0) hb); have n5_ := Aside0.mk (Kd.R_elder' (kr HO831.out) (Kd.R_base ho0) hb); have n6_ := Aside0.mk (Kd.R_elder' (kr HO833.out) (Kd.R_base ho0) hb); have n7_ := Aside0.mk (Kd.R_elder' (kr HO837.out) (Kd.R_base ho0) hb); have n8_ := Aside0.mk (Kd.R_lower (Kd.R_new' (Kd.R_new' (Kd.R_new' (Kd.R_new' (Kd.R_new' (Kd.R_new' (Kd.R_new' (Kd.R_new' ho0 (Kd.Q_lt (by (with_reducible repeat (first | apply Kd.Q_alloc | apply Kd.Q_drewN | apply Kd.Q_drew)); exact HO813.out))) (Kd.R_lt (kr HO818.out))) (Kd.R_lt (kr HO820.out))) (Kd.R_lt (kr HO825.out))) (Kd.R_lt (kr HO827.out))) (Kd.R_lt (kr HO831.out))) (Kd.R_lt (kr HO833.out))) (Kd.R_lt (kr HO837.out))) (below_size (bl0 HB.out))); have n9_ := Aside0.mk (below_step (bl0 HB.out) hb); clear HO813; clear HO818; clear HO820; clear HO825; clear HO827; clear HO831; clear HO833; clear HO837; clear HB; have HO813 := n0_; have HO818 := n1_; have HO820 := n2_; have HO825 := n3_; have HO827 := n4_; have HO831 := n5_; have HO833 := n6_; have HO837 := n7_; have HO841 := n8_; have HB := n9_; clear n0_ n1_ n2_ n3_ n4_ n5_ n6_ n7_ n8_ n9_; (try clear hb); (try clear hb2); (try clear hk); (try clear hi); (try clear ho0); obtain ⟨Ao148, co148, eo148⟩ := Kd.R_slice HO818.out; subst eo148; obtain ⟨Ao149, co149, eo149⟩ := Kd.R_slice HO825.out; subst eo149) | (go_at_call 11; (with_reducible refine (laws_iSame.calls kj113 _ _ t814 _ _ t821 true _ ?side1 ?side2 ?side3 ?side4 A131.out).mono ?_); (case side1 => repeat (first | exact (Kd.R_reads' HO818.out).2.2 | (with_reducible refine Kd.C_alloc ?_ _) | (with_reducible refine Kd.C_drewN ?_ _) | (with_reducible refine Kd.C_drew ?_))); (case side2 => exact (Kd.R_reads' HO818.out).2.1); (case side3 => repeat (first | exact (Kd.R_reads' HO825.out).2.2 | (with_reducible refine Kd.C_alloc ?_ _) | (with_reducible refine Kd.C_drewN ?_ _) | (with_reducible refine Kd.C_drew ?_))); (case side4 => exact (Kd.R_reads' HO825.out).2.1); rintro e w' ⟨rfl, ⟨nd, rfl⟩⟩; obtain ⟨Ao150, co150, eo150⟩ := Kd.R_slice HO820.out; subst eo150; obtain ⟨Ao151, co151, eo151⟩ := Kd.R_slice HO827.out; subst eo151) | (go_at_call 11; (with_reducible refine (laws_iSame.calls kj113 _ _ t815 _ _ t822 true _ ?side1 ?side2 ?side3 ?side4 A133.out).mono ?_); (case side1 => repeat (first | exact (Kd.R_reads' HO820.out).2.2 | (with_reducible refine Kd.C_alloc ?_ _) | (with_reducible refine Kd.C_drewN ?_ _) | (with_reducible refine Kd.C_drew ?_))); (case side2 => exact (Kd.R_reads' HO820.out).2.1); (case side3 => repeat (first | exact (Kd.R_reads' HO827.out).2.2 | (with_reducible refine Kd.C_alloc ?_ _) | (with_reducible refine Kd.C_drewN ?_ _) | (with_reducible refine Kd.C_drew ?_))); (case side4 => exact (Kd.R_reads' HO827.out).2.1); rintro e w' ⟨rfl, ⟨nd, rfl⟩⟩; obtain ⟨Ao152, co152, eo152⟩ := Kd.R_slice HO837.out; subst eo152; obtain ⟨Ao153, co153, eo153⟩ := Kd.R_slice HO841.out; subst eo153) | (go_at_call 11; (with_reducible refine (laws_iSame.calls kj113 _ _ t834 _ _ t838 true _ ?side1 ?side2 ?side3 ?side4 A136.out).mono ?_); (case side1 => repeat (first | exact (Kd.R_reads' HO837.out).2.2 | (with_reducible refine Kd.C_alloc ?_ _) | (with_reducible refine Kd.C_drewN ?_ _) | (with_reducible refine Kd.C_drew ?_))); (case side2 => exact (Kd.R_reads' HO837.out).2.1); (case side3 => repeat (first | exact (Kd.R_reads' HO841.out).2.2 | (with_reducible refine Kd.C_alloc ?_ _) | (with_reducible refine Kd.C_drewN ?_ _) | (with_reducible refine Kd.C_drew ?_))); (case side4 => exact (Kd.R_reads' HO841.out).2.1); rintro e w' ⟨rfl, ⟨nd, rfl⟩⟩))
                       (try simp only [Act.put, List.setIfInBounds_toArray, List.set_cons_zero, List.set_cons_succ])
                       refine cutF [ff, ff, ff, ff, tt, ff, ff, ff, ff, ff, ff, ff, ff, ff, ff, ff, ff, ff, ff, ff, ff, ff, ff, ff, ff, ff, ff, ff, ff, ff, ff, ff, ff, ff, ff, ff, ff, ff, ff, ff, ff, ff, ff, ff, ff, ff, ff, ff, ff, ff, ff, ff, ff, ff, ff, ff, ff, ff, ff, ff, ff, tt, tt, ff, ff, ff, ff, ff, ff, ff, ff, ff, ff, ff, ff, ff, ff, ff, ff, ff, ff, ff, ff, ff, ff, ff, ff, ff, ff, ff, ff, ff, tt, tt, tt, tt, tt, tt, tt, tt, tt, tt, tt, tt, tt, tt, tt, tt, tt, tt, tt, tt, tt, tt, tt, tt, tt, tt, tt, tt, tt, tt, tt, tt, tt, tt, tt, tt, tt, tt, tt, tt, tt, tt, tt, tt, tt, tt, tt, tt, tt, tt, tt, tt, tt, tt, tt, tt, tt, tt, tt, tt, tt, tt, tt, tt, tt, tt, tt, tt, tt, tt, tt, tt, tt, tt, tt, tt, tt, tt, tt, tt, tt, tt, tt, tt, tt, tt, tt, tt, tt, tt, tt, tt, tt, tt, tt, tt, tt, tt, tt, tt, tt, tt, tt, tt, tt, tt, tt, tt, tt, tt, tt, tt, tt, tt, tt, tt, tt, tt, tt, tt, tt, tt, tt, tt, tt, tt, tt, tt, tt, tt, tt, tt, tt, tt, tt, tt, tt, tt, tt, tt, tt, tt, tt, tt, tt, tt, tt, tt, tt, tt, tt, tt, tt, tt, tt, tt, tt, tt, tt, tt, tt, tt, tt, tt, tt, tt, tt, tt, tt, tt, tt, tt, tt, tt, tt, tt, tt, tt, tt, tt, tt, tt, tt, tt, tt, tt, tt, tt, tt, tt, tt, tt, tt, tt, tt, tt, tt, tt, tt, tt, tt, tt, tt, tt, tt, tt, tt, tt, tt, tt, tt, tt, tt, tt, tt, tt, tt, tt, tt, tt, tt, tt, tt, tt, tt, tt, tt, tt, tt, tt, tt, tt, tt, tt, tt, tt, tt, tt, tt, tt, tt, tt, tt, tt, tt, tt, tt, tt, tt, tt, tt, tt, tt, tt, tt, tt, tt, tt, tt, tt, tt, tt, tt, tt, tt, tt, tt, tt, tt, tt, tt, tt, tt, tt, tt, tt, tt, tt, tt, tt, tt, tt, tt, tt, tt, tt, tt, tt, tt, tt, tt, tt, tt, tt, tt, tt, tt, tt, tt, tt, tt, tt, tt, tt, tt, tt, tt, tt, tt, tt, tt, tt, tt, tt, tt, tt, tt, tt, tt, tt, tt, tt, tt, tt, tt, tt, tt, tt, tt, tt, tt, tt, tt, tt, tt, tt, tt, tt, ff, ff, ff, ff, ff, ff, ff, ff, ff, ff, ff, ff, ff, ff, ff, ff, ff, ff, ff, ff, ff, ff, ff, ff, ff, ff, ff, ff, ff, ff, ff, ff, ff, ff, ff, ff, ff, ff, ff, ff, ff, ff, ff, ff, ff, ff, ff, ff, ff, ff, ff, ff, ff, ff, ff, ff, ff, ff, ff, ff, ff, ff, ff, ff, ff, ff, ff, ff, ff, ff, ff, ff, ff, ff, ff, ff, ff, ff, ff, ff, ff, ff, ff, ff, ff, ff, ff, ff, ff, ff, ff, ff, ff, ff, ff, ff, ff, ff, ff, ff, ff, ff, ff, ff, ff, ff, ff, ff, ff, ff, ff, ff, ff, ff, ff, ff, ff, ff, ff, ff, ff, ff, ff, ff, ff, ff, ff, ff, ff, ff, ff, ff, ff, ff, ff, ff, ff, ff] (fun f_ wc => ∃ (kq : Nat), Aside0 (laws_FnPhasesWork.j4 kq l1 t828 t829 t834 t835 = some r) ∧ Aside0 (kq ≤ kj113) ∧ Aside0 (Kd.R (Kd.int .i64) 3 wc w.heap.size (fun k_ => some k_ ≠ ((.slice Ao145 t829.length co145) : Value).ownBlock ∧ some k_ ≠ ((.slice Ao152 t834.length co152) : Value).ownBlock) (.slice Ao144 t828.length co144) t828) ∧ Aside0 (Kd.R (Kd.int .i64) 3 wc w.heap.size (fun k_ => some k_ ≠ ((.slice Ao144 t828.length co144) : Value).ownBlock ∧ some k_ ≠ ((.slice Ao152 t834.length co152) : Value).ownBlock) (.slice Ao145 t829.length co145) t829) ∧ Aside0 (Kd.R (Kd.int .i64) 3 wc w.heap.size (fun k_ => some k_ ≠ ((.slice Ao144 t828.length co144) : Value).ownBlock ∧ some k_ ≠ ((.slice Ao145 t829.length co145) : Value).ownBlock) (.slice Ao152 t834.length co152) t834) ∧ Aside0 (Below w.heap.size w wc)) ?first_j4 ?rest_j4
                       case first_j4 => as_aux_lemma =>
                        intro J_ K_ hJ_j4 hK_
                        have H := HC138.out
                        clear HC138
                        by_cases c154 : t816 = true
                        ·subst c154
                         rw [if_pos rfl] at H
                         replace H := Option.bind_eq_some_iff.mp H
                         obtain ⟨⟨t845, t846⟩, A1550, H⟩ := H
                         (try dsimp only at H)
                         have A155 := Aside0.mk A1550
                         clear A1550
                         by_cases c156 : t846 = true
                         ·subst c156
                          rw [if_pos rfl] at H
                          replace H := Option.bind_eq_some_iff.mp H
                          obtain ⟨t849, A1570, H⟩ := H
                          (try dsimp only at H)
                          have A157 := Aside0.mk A1570
                          clear A1570
                          by_cases c158 : t849 = true
                          ·subst c158
                           rw [if_pos rfl] at H
                           have H' := Aside0.mk H
                           clear H
                           go_wp2_with (first | ((with_reducible refine gate_callee (f := 30) rfl ?_); refine goesLS_ (some 419) Try.func30 #[.slice Ao148 t814.length co148, .slice Ao150 t815.length co150] ?_; (with_reducible refine (impl_JoinBands.calls kj113 _ _ t814 _ _ t815 t845 true _ ?side1 ?side2 ?side3 ?side4 A155.out).mono ?_); (case side1 => repeat (first | exact (Kd.R_reads' HO818.out).2.2 | (with_reducible refine Kd.C_alloc ?_ _) | (with_reducible refine Kd.C_drewN ?_ _) | (with_reducible refine Kd.C_drew ?_))); (case side2 => exact (Kd.R_reads' HO818.out).2.1); (case side3 => repeat (first | exact (Kd.R_reads' HO820.out).2.2 | (with_reducible refine Kd.C_alloc ?_ _) | (with_reducible refine Kd.C_drewN ?_ _) | (with_reducible refine Kd.C_drew ?_))); (case side4 => exact (Kd.R_reads' HO820.out).2.1); rintro e w159 ⟨v847, rfl, ho0, hb⟩; refine ⟨_, rfl, ?_⟩; have n0_ := Aside0.mk (Kd.Q_elder' (by (with_reducible repeat (first | apply Kd.Q_alloc | apply Kd.Q_drewN | apply Kd.Q_drew)); exact HO813.out) (Kd.R_base ho0) hb); have n1_ := Aside0.mk (Kd.R_elder' (kr HO818.out) (Kd.R_base ho0) hb); have n2_ := Aside0.mk (Kd.R_elder' (kr HO820.out) (Kd.R_base ho0) hb); have n3_ := Aside0.mk (Kd.R_elder' (kr HO825.out) (Kd.R_base ho0) hb); have n4_ := Aside0.mk (Kd.R_elder' (kr HO827.out) (Kd.R_base ho0) hb); have n5_ := Aside0.mk (Kd.R_elder' (kr HO831.out) (Kd.R_base ho0) hb); have n6_ := Aside0.mk (Kd.R_elder' (kr HO833.out) (Kd.R_base ho0) hb); have n7_ := Aside0.mk (Kd.R_elder' (kr HO837.out) (Kd.R_base ho0) hb); have n8_ := Aside0.mk (Kd.R_elder' (kr HO841.out) (Kd.R_base ho0) hb); have n9_ := Aside0.mk (Kd.R_lower (Kd.R_new' (Kd.R_new' (Kd.R_new' (Kd.R_new' (Kd.R_new' (Kd.R_new' (Kd.R_new' (Kd.R_new' (Kd.R_new' ho0 (Kd.Q_lt (by (with_reducible repeat (first | apply Kd.Q_alloc | apply Kd.Q_drewN | apply Kd.Q_drew)); exact HO813.out))) (Kd.R_lt (kr HO818.out))) (Kd.R_lt (kr HO820.out))) (Kd.R_lt (kr HO825.out))) (Kd.R_lt (kr HO827.out))) (Kd.R_lt (kr HO831.out))) (Kd.R_lt (kr HO833.out))) (Kd.R_lt (kr HO837.out))) (Kd.R_lt (kr HO841.out))) (below_size (bl0 HB.out))); have n10_ := Aside0.mk (below_step (bl0 HB.out) hb); clear HO813; clear HO818; clear HO820; clear HO825; clear HO827; clear HO831; clear HO833; clear HO837; clear HO841; clear HB; have HO813 := n0_; have HO818 := n1_; have HO820 := n2_; have HO825 := n3_; have HO827 := n4_; have HO831 := n5_; have HO833 := n6_; have HO837 := n7_; have HO841 := n8_; have HO848 := n9_; have HB := n10_; clear n0_ n1_ n2_ n3_ n4_ n5_ n6_ n7_ n8_ n9_ n10_; (try clear hb); (try clear hb2); (try clear hk); (try clear hi); (try clear ho0); obtain ⟨Ao160, co160, eo160⟩ := Kd.R_slice HO848.out; subst eo160) | (go_at_call 11; (with_reducible refine (laws_iSame.calls kj113 _ _ t845 _ _ t811 true _ ?side1 ?side2 ?side3 ?side4 A157.out).mono ?_); (case side1 => repeat (first | exact (Kd.R_reads' HO848.out).2.2 | (with_reducible refine Kd.C_alloc ?_ _) | (with_reducible refine Kd.C_drewN ?_ _) | (with_reducible refine Kd.C_drew ?_))); (case side2 => exact (Kd.R_reads' HO848.out).2.1); (case side3 => repeat (first | exact (Kd.Q_reads' HO813.out).2.2 | (with_reducible refine Kd.C_alloc ?_ _) | (with_reducible refine Kd.C_drewN ?_ _) | (with_reducible refine Kd.C_drew ?_))); (case side4 => exact (Kd.Q_reads' HO813.out).2.1); rintro e w' ⟨rfl, ⟨nd, rfl⟩⟩))
                           refine meetF hJ_j4 (by kernel_rfl) (by kernel_rfl) ?rel_z161
                           case rel_z161 => (try simp only [List.getD_cons_succ, List.getD_cons_zero]); exact ⟨_, H', ⟨by have := HJ18.out; have := HJ90.out; have := HJ113.out; first | omega | exact Nat.le_refl _⟩, ⟨by (with_reducible repeat (first | apply Kd.R_alloc | apply Kd.R_drewN | apply Kd.R_drew)); exact Kd.R_mono HO831.out (fun _ hk => ⟨hk.1.1.1.1.1.1.1.1, hk.1.1.2⟩)⟩, ⟨by (with_reducible repeat (first | apply Kd.R_alloc | apply Kd.R_drewN | apply Kd.R_drew)); exact Kd.R_mono HO833.out (fun _ hk => ⟨hk.1.1.1.1.1.1.1.1, hk.1.1.2⟩)⟩, ⟨by (with_reducible repeat (first | apply Kd.R_alloc | apply Kd.R_drewN | apply Kd.R_drew)); exact Kd.R_mono HO837.out (fun _ hk => ⟨hk.1.1.1.2, hk.1.1.2⟩)⟩, ⟨bl0 HB.out⟩⟩
                          ·replace c158 := Bool.eq_false_iff.mpr c158
                           subst c158
                           rw [if_neg (show ¬ (false = true) by decide)] at H
                           obtain rfl := Option.some.inj H
                           exact absurd HT.out (by simp)
                         ·replace c156 := Bool.eq_false_iff.mpr c156
                          subst c156
                          rw [if_neg (show ¬ (false = true) by decide)] at H
                          obtain rfl := Option.some.inj H
                          exact absurd HT.out (by simp)
                        ·replace c154 := Bool.eq_false_iff.mpr c154
                         subst c154
                         rw [if_neg (show ¬ (false = true) by decide)] at H
                         have H' := Aside0.mk H
                         clear H
                         go_wp2
                         refine meetF hJ_j4 (by kernel_rfl) (by kernel_rfl) ?rel_z162
                         case rel_z162 => (try simp only [List.getD_cons_succ, List.getD_cons_zero]); exact ⟨_, H', ⟨by have := HJ18.out; have := HJ90.out; have := HJ113.out; first | omega | exact Nat.le_refl _⟩, ⟨by (with_reducible repeat (first | apply Kd.R_alloc | apply Kd.R_drewN | apply Kd.R_drew)); exact Kd.R_mono HO831.out (fun _ hk => ⟨hk.1.1.1.1.1.1.1, hk.1.2⟩)⟩, ⟨by (with_reducible repeat (first | apply Kd.R_alloc | apply Kd.R_drewN | apply Kd.R_drew)); exact Kd.R_mono HO833.out (fun _ hk => ⟨hk.1.1.1.1.1.1.1, hk.1.2⟩)⟩, ⟨by (with_reducible repeat (first | apply Kd.R_alloc | apply Kd.R_drewN | apply Kd.R_drew)); exact Kd.R_mono HO837.out (fun _ hk => ⟨hk.1.1.2, hk.1.2⟩)⟩, ⟨bl0 HB.out⟩⟩
                       case rest_j4 => as_aux_lemma =>
                        intro f_ wc hcut
                        dsimp only [ov]
                        clear HC138
                        try clear c1
                        try clear c2
                        try clear p2
                        try clear c3
                        try clear c4
                        try clear c5
                        try clear c6
                        try clear c7
                        try clear c8
                        try clear c9
                        try clear c10
                        try clear c10b0
                        try clear c10b1
                        try clear c10b2
                        try clear c11
                        try clear c12
                        try clear c13
                        try clear c13b0
                        try clear c13b1
                        try clear c13b2
                        try clear c14
                        try clear c15
                        try clear c16
                        try clear c16b0
                        try clear c16b1
                        try clear c16b2
                        try clear c17
                        try clear c18
                        try clear c19
                        try clear c20
                        try clear c21
                        try clear c22
                        try clear c23
                        try clear c24
                        try clear c26
                        try clear c27
                        try clear c28
                        try clear c29
                        try clear c30
                        try clear c31
                        try clear c35
                        try clear c36
                        try clear c36b0
                        try clear c36b1
                        try clear c37
                        try clear c38
                        try clear c39
                        try clear c39b0
                        try clear c45
                        try clear c47
                        try clear c49
                        try clear c55
                        try clear c55b0
                        try clear c55b1
                        try clear c58
                        try clear c60
                        try clear c61
                        try clear c63
                        try clear c65
                        try clear c85
                        try clear c85b0
                        try clear c85b1
                        try clear c85b2
                        try clear c87
                        try clear c88
                        try clear c88b0
                        try clear c88b1
                        try clear c88b2
                        try clear c90
                        try clear c104
                        try clear c106
                        try clear c108
                        try clear c109
                        try clear c109b0
                        try clear c109b1
                        try clear c115
                        try clear c117
                        try clear c119
                        try clear c130
                        try clear c130b0
                        try clear c130b1
                        try clear c130b2
                        try clear c132
                        try clear c134
                        try clear c135
                        try clear c135b0
                        try clear c135b1
                        try clear c135b2
                        try clear c137
                        try clear c154
                        try clear c156
                        try clear c158
                        try clear p2
                        obtain ⟨kq, HA, HJ137, HO_55, HO_56, HO_57, HB⟩ := hcut
                        cases kq with
                        | zero => exact absurd HA.out (by simp [laws_FnPhasesWork.j4])
                        | succ kj137 =>
                         have H := HA.out
                         clear HA
                         simp only [laws_FnPhasesWork.j4] at H
                         have HC163 := Aside0.mk H
                         clear H
                         go_upto_if 430 with (fail)
                         refine cutF [ff, ff, ff, ff, tt, ff, ff, ff, ff, ff, ff, ff, ff, ff, ff, ff, ff, ff, ff, ff, ff, ff, ff, ff, ff, ff, ff, ff, ff, ff, ff, ff, ff, ff, ff, ff, ff, ff, ff, ff, ff, ff, ff, ff, ff, ff, ff, ff, ff, ff, ff, ff, ff, ff, ff, ff, ff, ff, ff, ff, ff, ff, ff, tt, tt, tt, ff, ff, ff, ff, ff, ff, ff, ff, ff, ff, ff, ff, ff, ff, ff, ff, ff, ff, ff, ff, ff, ff, ff, ff, ff, ff, tt, tt, tt, tt, tt, tt, tt, tt, tt, tt, tt, tt, tt, tt, tt, tt, tt, tt, tt, tt, tt, tt, tt, tt, tt, tt, tt, tt, tt, tt, tt, tt, tt, tt, tt, tt, tt, tt, tt, tt, tt, tt, tt, tt, tt, tt, tt, tt, tt, tt, tt, tt, tt, tt, tt, tt, tt, tt, tt, tt, tt, tt, tt, tt, tt, tt, tt, tt, tt, tt, tt, tt, tt, tt, tt, tt, tt, tt, tt, tt, tt, tt, tt, tt, tt, tt, tt, tt, tt, tt, tt, tt, tt, tt, tt, tt, tt, tt, tt, tt, tt, tt, tt, tt, tt, tt, tt, tt, tt, tt, tt, tt, tt, tt, tt, tt, tt, tt, tt, tt, tt, tt, tt, tt, tt, tt, tt, tt, tt, tt, tt, tt, tt, tt, tt, tt, tt, tt, tt, tt, tt, tt, tt, tt, tt, tt, tt, tt, tt, tt, tt, tt, tt, tt, tt, tt, tt, tt, tt, tt, tt, tt, tt, tt, tt, tt, tt, tt, tt, tt, tt, tt, tt, tt, tt, tt, tt, tt, tt, tt, tt, tt, tt, tt, tt, tt, tt, tt, tt, tt, tt, tt, tt, tt, tt, tt, tt, tt, tt, tt, tt, tt, tt, tt, tt, tt, tt, tt, tt, tt, tt, tt, tt, tt, tt, tt, tt, tt, tt, tt, tt, tt, tt, tt, tt, tt, tt, tt, tt, tt, tt, tt, tt, tt, tt, tt, tt, tt, tt, tt, tt, tt, tt, tt, tt, tt, tt, tt, tt, tt, tt, tt, tt, tt, tt, tt, tt, tt, tt, tt, tt, tt, tt, tt, tt, tt, tt, tt, tt, tt, tt, tt, tt, tt, tt, tt, tt, tt, tt, tt, tt, tt, tt, tt, tt, tt, tt, tt, tt, tt, tt, tt, tt, tt, tt, tt, tt, tt, tt, tt, tt, tt, tt, tt, tt, tt, tt, tt, tt, tt, tt, tt, tt, tt, tt, tt, tt, tt, tt, tt, tt, tt, tt, tt, tt, tt, tt, tt, tt, tt, tt, tt, tt, tt, tt, tt, tt, tt, tt, tt, tt, tt, tt, tt, tt, tt, tt, tt, tt, tt, tt, tt, tt, tt, tt, tt, tt, tt, tt, ff, ff, ff, ff, ff, ff, ff, ff, ff, ff, ff, ff, ff, ff, ff, ff, ff, ff, ff, ff, ff, ff, ff, ff, ff, ff, ff, ff, ff, ff, ff, ff, ff, ff, ff, ff, ff, ff, ff, ff, ff, ff, ff, ff, ff, ff, ff, ff, ff, ff, ff, ff, ff, ff, ff, ff, ff, ff, ff, ff, ff, ff, ff, ff, ff, ff, ff, ff, ff, ff, ff, ff, ff, ff, ff, ff, ff, ff, ff, ff, ff, ff, ff, ff, ff, ff, ff, ff, ff, ff, ff, ff, ff, ff, ff, ff, ff, ff, ff, ff, ff, ff, ff, ff, ff, ff, ff, ff, ff, ff, ff, ff, ff, ff, ff, ff, ff] (fun f_ wc => ∃ (kq : Nat), Aside0 (laws_FnPhasesWork.j5 kq l1 = some r) ∧ Aside0 (kq ≤ kj137) ∧ Aside0 (Below w.heap.size w wc)) ?first_j5 ?rest_j5
                         case first_j5 => as_aux_lemma =>
                          intro J_ K_ hJ_j5 hK_
                          have H := HC163.out
                          clear HC163
                          by_cases c164 : t835 = true
                          ·subst c164
                           rw [if_pos rfl] at H
                           replace H := Option.bind_eq_some_iff.mp H
                           obtain ⟨⟨t850, t851, t852⟩, A1650, H⟩ := H
                           (try dsimp only at H)
                           have A165 := Aside0.mk A1650
                           clear A1650
                           by_cases c166 : t852 = true
                           ·subst c166
                            rw [if_pos rfl] at H
                            replace H := Option.bind_eq_some_iff.mp H
                            obtain ⟨t857, A1670, H⟩ := H
                            (try dsimp only at H)
                            have A167 := Aside0.mk A1670
                            clear A1670
                            by_cases c168 : t857 = true
                            ·subst c168
                             rw [if_pos rfl] at H
                             replace H := Option.bind_eq_some_iff.mp H
                             obtain ⟨t858, A1690, H⟩ := H
                             (try dsimp only at H)
                             have A169 := Aside0.mk A1690
                             clear A1690
                             by_cases c170 : t858 = true
                             ·subst c170
                              rw [if_pos rfl] at H
                              have H' := Aside0.mk H
                              clear H
                              go_wp2_with (first | ((with_reducible refine gate_callee (f := 27) rfl ?_); refine goesLS_ (some 433) Try.func27 #[.slice Ao152 t834.length co152] ?_; (with_reducible refine (impl_TwoBands.calls kj137 _ _ t834 t850 t851 true _ ?side1 ?side2 A165.out).mono ?_); (case side1 => repeat (first | exact (Kd.R_reads' HO_57.out).2.2 | (with_reducible refine Kd.C_alloc ?_ _) | (with_reducible refine Kd.C_drewN ?_ _) | (with_reducible refine Kd.C_drew ?_))); (case side2 => exact (Kd.R_reads' HO_57.out).2.1); rintro e w171 ⟨v853, v855, rfl, ho0, ho1, hb⟩; refine ⟨_, rfl, ?_⟩; have n0_ := Aside0.mk (Kd.R_mono (Kd.R_told (Kd.R_told (Kd.R_old (kr HO_55.out) hb) (Kd.R_base ho0)) (Kd.R_base ho1)) (fun _ h_ => h_.1)); have n1_ := Aside0.mk (Kd.R_mono (Kd.R_told (Kd.R_told (Kd.R_old (kr HO_56.out) hb) (Kd.R_base ho0)) (Kd.R_base ho1)) (fun _ h_ => h_.1)); have n2_ := Aside0.mk (Kd.R_mono (Kd.R_told (Kd.R_told (Kd.R_old (kr HO_57.out) hb) (Kd.R_base ho0)) (Kd.R_base ho1)) (fun _ h_ => h_.1)); have n3_ := Aside0.mk (Kd.R_lower (Kd.R_new' (Kd.R_new' (Kd.R_new' ho0 (Kd.R_lt (kr HO_55.out))) (Kd.R_lt (kr HO_56.out))) (Kd.R_lt (kr HO_57.out))) (below_size (bl0 HB.out))); have n4_ := Aside0.mk (Kd.R_lower (Kd.R_new' (Kd.R_new' (Kd.R_new' ho1 (Kd.R_lt (kr HO_55.out))) (Kd.R_lt (kr HO_56.out))) (Kd.R_lt (kr HO_57.out))) (below_size (bl0 HB.out))); have n5_ := Aside0.mk (below_step (bl0 HB.out) hb); clear HO_55; clear HO_56; clear HO_57; clear HB; have HO_55 := n0_; have HO_56 := n1_; have HO_57 := n2_; have HO854 := n3_; have HO856 := n4_; have HB := n5_; clear n0_ n1_ n2_ n3_ n4_ n5_; (try clear hb); (try clear hb2); (try clear hk); (try clear hi); (try clear ho0); (try clear ho1); obtain ⟨Ao172, co172, eo172⟩ := Kd.R_slice HO854.out; subst eo172) | (go_at_call 11; (with_reducible refine (laws_iSame.calls kj137 _ _ t850 _ _ t828 true _ ?side1 ?side2 ?side3 ?side4 A167.out).mono ?_); (case side1 => repeat (first | exact (Kd.R_reads' HO854.out).2.2 | (with_reducible refine Kd.C_alloc ?_ _) | (with_reducible refine Kd.C_drewN ?_ _) | (with_reducible refine Kd.C_drew ?_))); (case side2 => exact (Kd.R_reads' HO854.out).2.1); (case side3 => repeat (first | exact (Kd.R_reads' HO_55.out).2.2 | (with_reducible refine Kd.C_alloc ?_ _) | (with_reducible refine Kd.C_drewN ?_ _) | (with_reducible refine Kd.C_drew ?_))); (case side4 => exact (Kd.R_reads' HO_55.out).2.1); rintro e w' ⟨rfl, ⟨nd, rfl⟩⟩; obtain ⟨Ao173, co173, eo173⟩ := Kd.R_slice HO856.out; subst eo173) | (go_at_call 11; (with_reducible refine (laws_iSame.calls kj137 _ _ t851 _ _ t829 true _ ?side1 ?side2 ?side3 ?side4 A169.out).mono ?_); (case side1 => repeat (first | exact (Kd.R_reads' HO856.out).2.2 | (with_reducible refine Kd.C_alloc ?_ _) | (with_reducible refine Kd.C_drewN ?_ _) | (with_reducible refine Kd.C_drew ?_))); (case side2 => exact (Kd.R_reads' HO856.out).2.1); (case side3 => repeat (first | exact (Kd.R_reads' HO_56.out).2.2 | (with_reducible refine Kd.C_alloc ?_ _) | (with_reducible refine Kd.C_drewN ?_ _) | (with_reducible refine Kd.C_drew ?_))); (case side4 => exact (Kd.R_reads' HO_56.out).2.1); rintro e w' ⟨rfl, ⟨nd, rfl⟩⟩))
                              refine meetF hJ_j5 (by kernel_rfl) (by kernel_rfl) ?rel_z174
                              case rel_z174 => (try simp only [List.getD_cons_succ, List.getD_cons_zero]); exact ⟨_, H', ⟨by have := HJ18.out; have := HJ90.out; have := HJ113.out; have := HJ137.out; first | omega | exact Nat.le_refl _⟩, ⟨bl0 HB.out⟩⟩
                             ·replace c170 := Bool.eq_false_iff.mpr c170
                              subst c170
                              rw [if_neg (show ¬ (false = true) by decide)] at H
                              obtain rfl := Option.some.inj H
                              exact absurd HT.out (by simp)
                            ·replace c168 := Bool.eq_false_iff.mpr c168
                             subst c168
                             rw [if_neg (show ¬ (false = true) by decide)] at H
                             obtain rfl := Option.some.inj H
                             exact absurd HT.out (by simp)
                           ·replace c166 := Bool.eq_false_iff.mpr c166
                            subst c166
                            rw [if_neg (show ¬ (false = true) by decide)] at H
                            obtain rfl := Option.some.inj H
                            exact absurd HT.out (by simp)
                          ·replace c164 := Bool.eq_false_iff.mpr c164
                           subst c164
                           rw [if_neg (show ¬ (false = true) by decide)] at H
                           have H' := Aside0.mk H
                           clear H
                           go_wp2
                           refine meetF hJ_j5 (by kernel_rfl) (by kernel_rfl) ?rel_z175
                           case rel_z175 => (try simp only [List.getD_cons_succ, List.getD_cons_zero]); exact ⟨_, H', ⟨by have := HJ18.out; have := HJ90.out; have := HJ113.out; have := HJ137.out; first | omega | exact Nat.le_refl _⟩, ⟨bl0 HB.out⟩⟩
                         case rest_j5 => as_aux_lemma =>
                          intro f_ wc hcut
                          dsimp only [ov]
                          clear HC163
                          try clear c1
                          try clear c2
                          try clear p2
                          try clear c3
                          try clear c4
                          try clear c5
                          try clear c6
                          try clear c7
                          try clear c8
                          try clear c9
                          try clear c10
                          try clear c10b0
                          try clear c10b1
                          try clear c10b2
                          try clear c11
                          try clear c12
                          try clear c13
                          try clear c13b0
                          try clear c13b1
                          try clear c13b2
                          try clear c14
                          try clear c15
                          try clear c16
                          try clear c16b0
                          try clear c16b1
                          try clear c16b2
                          try clear c17
                          try clear c18
                          try clear c19
                          try clear c20
                          try clear c21
                          try clear c22
                          try clear c23
                          try clear c24
                          try clear c26
                          try clear c27
                          try clear c28
                          try clear c29
                          try clear c30
                          try clear c31
                          try clear c35
                          try clear c36
                          try clear c36b0
                          try clear c36b1
                          try clear c37
                          try clear c38
                          try clear c39
                          try clear c39b0
                          try clear c45
                          try clear c47
                          try clear c49
                          try clear c55
                          try clear c55b0
                          try clear c55b1
                          try clear c58
                          try clear c60
                          try clear c61
                          try clear c63
                          try clear c65
                          try clear c85
                          try clear c85b0
                          try clear c85b1
                          try clear c85b2
                          try clear c87
                          try clear c88
                          try clear c88b0
                          try clear c88b1
                          try clear c88b2
                          try clear c90
                          try clear c104
                          try clear c106
                          try clear c108
                          try clear c109
                          try clear c109b0
                          try clear c109b1
                          try clear c115
                          try clear c117
                          try clear c119
                          try clear c130
                          try clear c130b0
                          try clear c130b1
                          try clear c130b2
                          try clear c132
                          try clear c134
                          try clear c135
                          try clear c135b0
                          try clear c135b1
                          try clear c135b2
                          try clear c137
                          try clear c154
                          try clear c156
                          try clear c158
                          try clear c164
                          try clear c166
                          try clear c168
                          try clear c170
                          try clear p2
                          obtain ⟨kq, HA, HJ162, HB⟩ := hcut
                          cases kq with
                          | zero => exact absurd HA.out (by simp [laws_FnPhasesWork.j5])
                          | succ kj162 =>
                           have H := HA.out
                           clear HA
                           simp only [laws_FnPhasesWork.j5] at H
                           replace H := Option.bind_eq_some_iff.mp H
                           obtain ⟨⟨t859, t860, t861, t862⟩, A1760, H⟩ := H
                           (try dsimp only at H)
                           have A176 := Aside0.mk A1760
                           clear A1760
                           replace H := Option.bind_eq_some_iff.mp H
                           obtain ⟨⟨t865, t866⟩, A1770, H⟩ := H
                           (try dsimp only at H)
                           have A177 := Aside0.mk A1770
                           clear A1770
                           replace H := Option.bind_eq_some_iff.mp H
                           obtain ⟨⟨t867, t868⟩, A1780, H⟩ := H
                           (try dsimp only at H)
                           have A178 := Aside0.mk A1780
                           clear A1780
                           replace H := Option.bind_eq_some_iff.mp H
                           obtain ⟨⟨t869, t870⟩, A1790, H⟩ := H
                           (try dsimp only at H)
                           have A179 := Aside0.mk A1790
                           clear A1790
                           replace H := Option.bind_eq_some_iff.mp H
                           obtain ⟨⟨t871, t872⟩, A1800, H⟩ := H
                           (try dsimp only at H)
                           have A180 := Aside0.mk A1800
                           clear A1800
                           replace H := Option.bind_eq_some_iff.mp H
                           obtain ⟨⟨t873, t874, t875⟩, A1810, H⟩ := H
                           (try dsimp only at H)
                           have A181 := Aside0.mk A1810
                           clear A1810
                           replace H := Option.bind_eq_some_iff.mp H
                           obtain ⟨⟨t880, t881⟩, A1820, H⟩ := H
                           (try dsimp only at H)
                           have A182 := Aside0.mk A1820
                           clear A1820
                           replace H := Option.bind_eq_some_iff.mp H
                           obtain ⟨⟨t884, t885⟩, A1830, H⟩ := H
                           (try dsimp only at H)
                           have A183 := Aside0.mk A1830
                           clear A1830
                           replace H := Option.bind_eq_some_iff.mp H
                           obtain ⟨⟨t888, t889, t890⟩, A1840, H⟩ := H
                           (try dsimp only at H)
                           have A184 := Aside0.mk A1840
                           clear A1840
                           replace H := Option.bind_eq_some_iff.mp H
                           obtain ⟨⟨t895, t896⟩, A1850, H⟩ := H
                           (try dsimp only at H)
                           have A185 := Aside0.mk A1850
                           clear A1850
                           replace H := Option.bind_eq_some_iff.mp H
                           obtain ⟨⟨t899, t900⟩, A1860, H⟩ := H
                           (try dsimp only at H)
                           have A186 := Aside0.mk A1860
                           clear A1860
                           by_cases c187 : (t866 == t868) = true
                           ·rw [if_pos c187] at H
                            have c187b0 : (t866 == t868) = true := c187
                            (try (have c187b1 : decide (t866 = t868) = true := by simpa using c187))
                            (try (have c187b2 : (t866 == t868) = true := by simpa using c187))
                            clear c187
                            by_cases c188 : t865 = t867
                            ·rw [if_pos c188] at H
                             have c188b0 : (t865 == t867) = true := beq_iff_eq.mpr c188
                             have c188b1 : (t865 != t867) = false := bne_eq_false_iff_eq.mpr c188
                             clear c188
                             by_cases c189 : (t870 == t872) = true
                             ·rw [if_pos c189] at H
                              have c189b0 : (t870 == t872) = true := c189
                              (try (have c189b1 : decide (t870 = t872) = true := by simpa using c189))
                              (try (have c189b2 : (t870 == t872) = true := by simpa using c189))
                              clear c189
                              by_cases c190 : t869 = t871
                              ·rw [if_pos c190] at H
                               have c190b0 : (t869 == t871) = true := beq_iff_eq.mpr c190
                               have c190b1 : (t869 != t871) = false := bne_eq_false_iff_eq.mpr c190
                               clear c190
                               by_cases c191 : (t881 == t885) = true
                               ·rw [if_pos c191] at H
                                have c191b0 : (t881 == t885) = true := c191
                                (try (have c191b1 : decide (t881 = t885) = true := by simpa using c191))
                                (try (have c191b2 : (t881 == t885) = true := by simpa using c191))
                                clear c191
                                replace H := Option.bind_eq_some_iff.mp H
                                obtain ⟨t903, A1920, H⟩ := H
                                (try dsimp only at H)
                                have A192 := Aside0.mk A1920
                                clear A1920
                                by_cases c193 : t903 = true
                                ·subst c193
                                 rw [if_pos rfl] at H
                                 by_cases c194 : (t896 == t900) = true
                                 ·rw [if_pos c194] at H
                                  have c194b0 : (t896 == t900) = true := c194
                                  (try (have c194b1 : decide (t896 = t900) = true := by simpa using c194))
                                  (try (have c194b2 : (t896 == t900) = true := by simpa using c194))
                                  clear c194
                                  replace H := Option.bind_eq_some_iff.mp H
                                  obtain ⟨t904, A1950, H⟩ := H
                                  (try dsimp only at H)
                                  have A195 := Aside0.mk A1950
                                  clear A1950
                                  obtain rfl := Option.some.inj H
                                  go_wp2_with (first | ((with_reducible refine gate_callee (f := 32) rfl ?_); refine goesLS_ (some 453) Try.func32 #[.slice A1 l1.length c1] ?_; (with_reducible refine (spec_DrawProductsDirect.calls kj162 _ _ l1 t859 t860 t861 t862 _ ?side1 ?side2 A176.out).mono ?_); (case side1 => repeat (first | exact (Kd.C_below HR1.out HB.out) | (with_reducible refine Kd.C_alloc ?_ _) | (with_reducible refine Kd.C_drewN ?_ _) | (with_reducible refine Kd.C_drew ?_))); (case side2 => exact HC1.out); rintro e w196 ⟨v863, rfl, ho0, hb⟩; refine ⟨_, rfl, ?_⟩; have n0_ := Aside0.mk (Kd.R_lower ho0 (below_size (bl0 HB.out))); have n1_ := Aside0.mk (below_step (bl0 HB.out) hb); clear HB; have HO864 := n0_; have HB := n1_; clear n0_ n1_; (try clear hb); (try clear hb2); (try clear hk); (try clear hi); (try clear ho0); obtain ⟨Ao197, co197, eo197⟩ := Kd.R_slice HO864.out; subst eo197) | ((with_reducible refine gate_callee (f := 13) rfl ?_); refine goesLS_ (some 463) Try.func13 #[.slice Ao197 t859.length co197, .int .i64 t860, .int .i64 t861, .int .i64 t862] ?_; (with_reducible refine (impl_ProductsDirect.calls kj162 _ _ t859 t860 t861 t862 t865 t866 _ ?side1 ?side2 A177.out).mono ?_); (case side1 => repeat (first | exact (Kd.R_reads' HO864.out).2.2 | (with_reducible refine Kd.C_alloc ?_ _) | (with_reducible refine Kd.C_drewN ?_ _) | (with_reducible refine Kd.C_drew ?_))); (case side2 => exact (Kd.R_reads' HO864.out).2.1); rintro e w198 ⟨rfl, hb⟩; refine ⟨_, rfl, ?_⟩; have n0_ := Aside0.mk (Kd.R_below (kr HO864.out) hb); have n1_ := Aside0.mk (below_step (bl0 HB.out) hb); clear HO864; clear HB; have HO864 := n0_; have HB := n1_; clear n0_ n1_; (try clear hb); (try clear hb2); (try clear hk); (try clear hi)) | ((with_reducible refine gate_callee (f := 33) rfl ?_); refine goesLS_ (some 471) Try.func33 #[.slice Ao197 t859.length co197, .int .i64 t860, .int .i64 t861, .int .i64 t862] ?_; (with_reducible refine (spec_ProductsDirect.calls kj162 _ _ t859 t860 t861 t862 t867 t868 _ ?side1 ?side2 A178.out).mono ?_); (case side1 => repeat (first | exact (Kd.R_reads' HO864.out).2.2 | (with_reducible refine Kd.C_alloc ?_ _) | (with_reducible refine Kd.C_drewN ?_ _) | (with_reducible refine Kd.C_drew ?_))); (case side2 => exact (Kd.R_reads' HO864.out).2.1); rintro e w' ⟨rfl, ⟨nd, rfl⟩⟩; refine ⟨_, rfl, ?_⟩) | ((with_reducible refine gate_callee (f := 14) rfl ?_); refine goesLS_ (some 479) Try.func14 #[.slice Ao197 t859.length co197, .int .i64 t860, .int .i64 t861, .int .i64 t862] ?_; (with_reducible refine (impl_ProductsByPhases.calls kj162 _ _ t859 t860 t861 t862 t869 t870 _ ?side1 ?side2 A179.out).mono ?_); (case side1 => repeat (first | exact (Kd.R_reads' HO864.out).2.2 | (with_reducible refine Kd.C_alloc ?_ _) | (with_reducible refine Kd.C_drewN ?_ _) | (with_reducible refine Kd.C_drew ?_))); (case side2 => exact (Kd.R_reads' HO864.out).2.1); rintro e w199 ⟨rfl, hb⟩; refine ⟨_, rfl, ?_⟩; have n0_ := Aside0.mk (Kd.R_below (kr HO864.out) hb); have n1_ := Aside0.mk (below_step (bl0 HB.out) hb); clear HO864; clear HB; have HO864 := n0_; have HB := n1_; clear n0_ n1_; (try clear hb); (try clear hb2); (try clear hk); (try clear hi)) | ((with_reducible refine gate_callee (f := 34) rfl ?_); refine goesLS_ (some 487) Try.func34 #[.slice Ao197 t859.length co197, .int .i64 t860, .int .i64 t861, .int .i64 t862] ?_; (with_reducible refine (spec_ProductsByPhases.calls kj162 _ _ t859 t860 t861 t862 t871 t872 _ ?side1 ?side2 A180.out).mono ?_); (case side1 => repeat (first | exact (Kd.R_reads' HO864.out).2.2 | (with_reducible refine Kd.C_alloc ?_ _) | (with_reducible refine Kd.C_drewN ?_ _) | (with_reducible refine Kd.C_drew ?_))); (case side2 => exact (Kd.R_reads' HO864.out).2.1); rintro e w200 ⟨rfl, hb⟩; refine ⟨_, rfl, ?_⟩; have n0_ := Aside0.mk (Kd.R_below (kr HO864.out) hb); have n1_ := Aside0.mk (below_step (bl0 HB.out) hb); clear HO864; clear HB; have HO864 := n0_; have HB := n1_; clear n0_ n1_; (try clear hb); (try clear hb2); (try clear hk); (try clear hi)) | ((with_reducible refine gate_callee (f := 35) rfl ?_); refine goesLS_ (some 492) Try.func35 #[.slice A1 l1.length c1] ?_; (with_reducible refine (spec_DrawDownFilter.calls kj162 _ _ l1 t873 t874 t875 _ ?side1 ?side2 A181.out).mono ?_); (case side1 => repeat (first | exact (Kd.C_below HR1.out HB.out) | (with_reducible refine Kd.C_alloc ?_ _) | (with_reducible refine Kd.C_drewN ?_ _) | (with_reducible refine Kd.C_drew ?_))); (case side2 => exact HC1.out); rintro e w201 ⟨v876, v878, rfl, ho0, ho1, hb⟩; refine ⟨_, rfl, ?_⟩; have n0_ := Aside0.mk (Kd.R_mono (Kd.R_told (Kd.R_told (Kd.R_old (kr HO864.out) hb) (Kd.R_base ho0)) (Kd.R_base ho1)) (fun _ h_ => h_.1)); have n1_ := Aside0.mk (Kd.R_lower (Kd.R_new' ho0 (Kd.R_lt (kr HO864.out))) (below_size (bl0 HB.out))); have n2_ := Aside0.mk (Kd.R_lower (Kd.R_new' ho1 (Kd.R_lt (kr HO864.out))) (below_size (bl0 HB.out))); have n3_ := Aside0.mk (below_step (bl0 HB.out) hb); clear HO864; clear HB; have HO864 := n0_; have HO877 := n1_; have HO879 := n2_; have HB := n3_; clear n0_ n1_ n2_ n3_; (try clear hb); (try clear hb2); (try clear hk); (try clear hi); (try clear ho0); (try clear ho1); obtain ⟨Ao202, co202, eo202⟩ := Kd.R_slice HO877.out; subst eo202; obtain ⟨Ao203, co203, eo203⟩ := Kd.R_slice HO879.out; subst eo203) | ((with_reducible refine gate_callee (f := 17) rfl ?_); refine goesLS_ (some 500) Try.func17 #[.slice Ao202 t873.length co202, .slice Ao203 t874.length co203, .int .i64 t875] ?_; (with_reducible refine (impl_DownFilter.calls kj162 _ _ t873 _ _ t874 t875 t880 t881 _ ?side1 ?side2 ?side3 ?side4 A182.out).mono ?_); (case side1 => repeat (first | exact (Kd.R_reads' HO877.out).2.2 | (with_reducible refine Kd.C_alloc ?_ _) | (with_reducible refine Kd.C_drewN ?_ _) | (with_reducible refine Kd.C_drew ?_))); (case side2 => exact (Kd.R_reads' HO877.out).2.1); (case side3 => repeat (first | exact (Kd.R_reads' HO879.out).2.2 | (with_reducible refine Kd.C_alloc ?_ _) | (with_reducible refine Kd.C_drewN ?_ _) | (with_reducible refine Kd.C_drew ?_))); (case side4 => exact (Kd.R_reads' HO879.out).2.1); rintro e w204 ⟨v882, rfl, ho0, hb⟩; refine ⟨_, rfl, ?_⟩; have n0_ := Aside0.mk (Kd.R_elder' (kr HO864.out) (Kd.R_base ho0) hb); have n1_ := Aside0.mk (Kd.R_elder' (kr HO877.out) (Kd.R_base ho0) hb); have n2_ := Aside0.mk (Kd.R_elder' (kr HO879.out) (Kd.R_base ho0) hb); have n3_ := Aside0.mk (Kd.R_lower (Kd.R_new' (Kd.R_new' (Kd.R_new' ho0 (Kd.R_lt (kr HO864.out))) (Kd.R_lt (kr HO877.out))) (Kd.R_lt (kr HO879.out))) (below_size (bl0 HB.out))); have n4_ := Aside0.mk (below_step (bl0 HB.out) hb); clear HO864; clear HO877; clear HO879; clear HB; have HO864 := n0_; have HO877 := n1_; have HO879 := n2_; have HO883 := n3_; have HB := n4_; clear n0_ n1_ n2_ n3_ n4_; (try clear hb); (try clear hb2); (try clear hk); (try clear hi); (try clear ho0)) | ((with_reducible refine gate_callee (f := 36) rfl ?_); refine goesLS_ (some 507) Try.func36 #[.slice Ao202 t873.length co202, .slice Ao203 t874.length co203, .int .i64 t875] ?_; (with_reducible refine (spec_DownFilter.calls kj162 _ _ t873 _ _ t874 t875 t884 t885 _ ?side1 ?side2 ?side3 ?side4 A183.out).mono ?_); (case side1 => repeat (first | exact (Kd.R_reads' HO877.out).2.2 | (with_reducible refine Kd.C_alloc ?_ _) | (with_reducible refine Kd.C_drewN ?_ _) | (with_reducible refine Kd.C_drew ?_))); (case side2 => exact (Kd.R_reads' HO877.out).2.1); (case side3 => repeat (first | exact (Kd.R_reads' HO879.out).2.2 | (with_reducible refine Kd.C_alloc ?_ _) | (with_reducible refine Kd.C_drewN ?_ _) | (with_reducible refine Kd.C_drew ?_))); (case side4 => exact (Kd.R_reads' HO879.out).2.1); rintro e w205 ⟨v886, rfl, ho0, hb⟩; refine ⟨_, rfl, ?_⟩; have n0_ := Aside0.mk (Kd.R_elder' (kr HO864.out) (Kd.R_base ho0) hb); have n1_ := Aside0.mk (Kd.R_elder' (kr HO877.out) (Kd.R_base ho0) hb); have n2_ := Aside0.mk (Kd.R_elder' (kr HO879.out) (Kd.R_base ho0) hb); have n3_ := Aside0.mk (Kd.R_elder' (kr HO883.out) (Kd.R_base ho0) hb); have n4_ := Aside0.mk (Kd.R_lower (Kd.R_new' (Kd.R_new' (Kd.R_new' (Kd.R_new' ho0 (Kd.R_lt (kr HO864.out))) (Kd.R_lt (kr HO877.out))) (Kd.R_lt (kr HO879.out))) (Kd.R_lt (kr HO883.out))) (below_size (bl0 HB.out))); have n5_ := Aside0.mk (below_step (bl0 HB.out) hb); clear HO864; clear HO877; clear HO879; clear HO883; clear HB; have HO864 := n0_; have HO877 := n1_; have HO879 := n2_; have HO883 := n3_; have HO887 := n4_; have HB := n5_; clear n0_ n1_ n2_ n3_ n4_ n5_; (try clear hb); (try clear hb2); (try clear hk); (try clear hi); (try clear ho0)) | ((with_reducible refine gate_callee (f := 37) rfl ?_); refine goesLS_ (some 512) Try.func37 #[.slice A1 l1.length c1] ?_; (with_reducible refine (spec_DrawUpFilter.calls kj162 _ _ l1 t888 t889 t890 _ ?side1 ?side2 A184.out).mono ?_); (case side1 => repeat (first | exact (Kd.C_below HR1.out HB.out) | (with_reducible refine Kd.C_alloc ?_ _) | (with_reducible refine Kd.C_drewN ?_ _) | (with_reducible refine Kd.C_drew ?_))); (case side2 => exact HC1.out); rintro e w206 ⟨v891, v893, rfl, ho0, ho1, hb⟩; refine ⟨_, rfl, ?_⟩; have n0_ := Aside0.mk (Kd.R_mono (Kd.R_told (Kd.R_told (Kd.R_old (kr HO864.out) hb) (Kd.R_base ho0)) (Kd.R_base ho1)) (fun _ h_ => h_.1)); have n1_ := Aside0.mk (Kd.R_mono (Kd.R_told (Kd.R_told (Kd.R_old (kr HO877.out) hb) (Kd.R_base ho0)) (Kd.R_base ho1)) (fun _ h_ => h_.1)); have n2_ := Aside0.mk (Kd.R_mono (Kd.R_told (Kd.R_told (Kd.R_old (kr HO879.out) hb) (Kd.R_base ho0)) (Kd.R_base ho1)) (fun _ h_ => h_.1)); have n3_ := Aside0.mk (Kd.R_mono (Kd.R_told (Kd.R_told (Kd.R_old (kr HO883.out) hb) (Kd.R_base ho0)) (Kd.R_base ho1)) (fun _ h_ => h_.1)); have n4_ := Aside0.mk (Kd.R_mono (Kd.R_told (Kd.R_told (Kd.R_old (kr HO887.out) hb) (Kd.R_base ho0)) (Kd.R_base ho1)) (fun _ h_ => h_.1)); have n5_ := Aside0.mk (Kd.R_lower (Kd.R_new' (Kd.R_new' (Kd.R_new' (Kd.R_new' (Kd.R_new' ho0 (Kd.R_lt (kr HO864.out))) (Kd.R_lt (kr HO877.out))) (Kd.R_lt (kr HO879.out))) (Kd.R_lt (kr HO883.out))) (Kd.R_lt (kr HO887.out))) (below_size (bl0 HB.out))); have n6_ := Aside0.mk (Kd.R_lower (Kd.R_new' (Kd.R_new' (Kd.R_new' (Kd.R_new' (Kd.R_new' ho1 (Kd.R_lt (kr HO864.out))) (Kd.R_lt (kr HO877.out))) (Kd.R_lt (kr HO879.out))) (Kd.R_lt (kr HO883.out))) (Kd.R_lt (kr HO887.out))) (below_size (bl0 HB.out))); have n7_ := Aside0.mk (below_step (bl0 HB.out) hb); clear HO864; clear HO877; clear HO879; clear HO883; clear HO887; clear HB; have HO864 := n0_; have HO877 := n1_; have HO879 := n2_; have HO883 := n3_; have HO887 := n4_; have HO892 := n5_; have HO894 := n6_; have HB := n7_; clear n0_ n1_ n2_ n3_ n4_ n5_ n6_ n7_; (try clear hb); (try clear hb2); (try clear hk); (try clear hi); (try clear ho0); (try clear ho1); obtain ⟨Ao207, co207, eo207⟩ := Kd.R_slice HO892.out; subst eo207; obtain ⟨Ao208, co208, eo208⟩ := Kd.R_slice HO894.out; subst eo208) | ((with_reducible refine gate_callee (f := 15) rfl ?_); refine goesLS_ (some 520) Try.func15 #[.slice Ao207 t888.length co207, .slice Ao208 t889.length co208, .int .i64 t890] ?_; (with_reducible refine (impl_UpFilter.calls kj162 _ _ t888 _ _ t889 t890 t895 t896 _ ?side1 ?side2 ?side3 ?side4 A185.out).mono ?_); (case side1 => repeat (first | exact (Kd.R_reads' HO892.out).2.2 | (with_reducible refine Kd.C_alloc ?_ _) | (with_reducible refine Kd.C_drewN ?_ _) | (with_reducible refine Kd.C_drew ?_))); (case side2 => exact (Kd.R_reads' HO892.out).2.1); (case side3 => repeat (first | exact (Kd.R_reads' HO894.out).2.2 | (with_reducible refine Kd.C_alloc ?_ _) | (with_reducible refine Kd.C_drewN ?_ _) | (with_reducible refine Kd.C_drew ?_))); (case side4 => exact (Kd.R_reads' HO894.out).2.1); rintro e w209 ⟨v897, rfl, ho0, hb⟩; refine ⟨_, rfl, ?_⟩; have n0_ := Aside0.mk (Kd.R_elder' (kr HO864.out) (Kd.R_base ho0) hb); have n1_ := Aside0.mk (Kd.R_elder' (kr HO877.out) (Kd.R_base ho0) hb); have n2_ := Aside0.mk (Kd.R_elder' (kr HO879.out) (Kd.R_base ho0) hb); have n3_ := Aside0.mk (Kd.R_elder' (kr HO883.out) (Kd.R_base ho0) hb); have n4_ := Aside0.mk (Kd.R_elder' (kr HO887.out) (Kd.R_base ho0) hb); have n5_ := Aside0.mk (Kd.R_elder' (kr HO892.out) (Kd.R_base ho0) hb); have n6_ := Aside0.mk (Kd.R_elder' (kr HO894.out) (Kd.R_base ho0) hb); have n7_ := Aside0.mk (Kd.R_lower (Kd.R_new' (Kd.R_new' (Kd.R_new' (Kd.R_new' (Kd.R_new' (Kd.R_new' (Kd.R_new' ho0 (Kd.R_lt (kr HO864.out))) (Kd.R_lt (kr HO877.out))) (Kd.R_lt (kr HO879.out))) (Kd.R_lt (kr HO883.out))) (Kd.R_lt (kr HO887.out))) (Kd.R_lt (kr HO892.out))) (Kd.R_lt (kr HO894.out))) (below_size (bl0 HB.out))); have n8_ := Aside0.mk (below_step (bl0 HB.out) hb); clear HO864; clear HO877; clear HO879; clear HO883; clear HO887; clear HO892; clear HO894; clear HB; have HO864 := n0_; have HO877 := n1_; have HO879 := n2_; have HO883 := n3_; have HO887 := n4_; have HO892 := n5_; have HO894 := n6_; have HO898 := n7_; have HB := n8_; clear n0_ n1_ n2_ n3_ n4_ n5_ n6_ n7_ n8_; (try clear hb); (try clear hb2); (try clear hk); (try clear hi); (try clear ho0)) | ((with_reducible refine gate_callee (f := 38) rfl ?_); refine goesLS_ (some 527) Try.func38 #[.slice Ao207 t888.length co207, .slice Ao208 t889.length co208, .int .i64 t890] ?_; (with_reducible refine (spec_UpFilter.calls kj162 _ _ t888 _ _ t889 t890 t899 t900 _ ?side1 ?side2 ?side3 ?side4 A186.out).mono ?_); (case side1 => repeat (first | exact (Kd.R_reads' HO892.out).2.2 | (with_reducible refine Kd.C_alloc ?_ _) | (with_reducible refine Kd.C_drewN ?_ _) | (with_reducible refine Kd.C_drew ?_))); (case side2 => exact (Kd.R_reads' HO892.out).2.1); (case side3 => repeat (first | exact (Kd.R_reads' HO894.out).2.2 | (with_reducible refine Kd.C_alloc ?_ _) | (with_reducible refine Kd.C_drewN ?_ _) | (with_reducible refine Kd.C_drew ?_))); (case side4 => exact (Kd.R_reads' HO894.out).2.1); rintro e w210 ⟨v901, rfl, ho0, hb⟩; refine ⟨_, rfl, ?_⟩; have n0_ := Aside0.mk (Kd.R_elder' (kr HO864.out) (Kd.R_base ho0) hb); have n1_ := Aside0.mk (Kd.R_elder' (kr HO877.out) (Kd.R_base ho0) hb); have n2_ := Aside0.mk (Kd.R_elder' (kr HO879.out) (Kd.R_base ho0) hb); have n3_ := Aside0.mk (Kd.R_elder' (kr HO883.out) (Kd.R_base ho0) hb); have n4_ := Aside0.mk (Kd.R_elder' (kr HO887.out) (Kd.R_base ho0) hb); have n5_ := Aside0.mk (Kd.R_elder' (kr HO892.out) (Kd.R_base ho0) hb); have n6_ := Aside0.mk (Kd.R_elder' (kr HO894.out) (Kd.R_base ho0) hb); have n7_ := Aside0.mk (Kd.R_elder' (kr HO898.out) (Kd.R_base ho0) hb); have n8_ := Aside0.mk (Kd.R_lower (Kd.R_new' (Kd.R_new' (Kd.R_new' (Kd.R_new' (Kd.R_new' (Kd.R_new' (Kd.R_new' (Kd.R_new' ho0 (Kd.R_lt (kr HO864.out))) (Kd.R_lt (kr HO877.out))) (Kd.R_lt (kr HO879.out))) (Kd.R_lt (kr HO883.out))) (Kd.R_lt (kr HO887.out))) (Kd.R_lt (kr HO892.out))) (Kd.R_lt (kr HO894.out))) (Kd.R_lt (kr HO898.out))) (below_size (bl0 HB.out))); have n9_ := Aside0.mk (below_step (bl0 HB.out) hb); clear HO864; clear HO877; clear HO879; clear HO883; clear HO887; clear HO892; clear HO894; clear HO898; clear HB; have HO864 := n0_; have HO877 := n1_; have HO879 := n2_; have HO883 := n3_; have HO887 := n4_; have HO892 := n5_; have HO894 := n6_; have HO898 := n7_; have HO902 := n8_; have HB := n9_; clear n0_ n1_ n2_ n3_ n4_ n5_ n6_ n7_ n8_ n9_; (try clear hb); (try clear hb2); (try clear hk); (try clear hi); (try clear ho0); obtain ⟨Ao211, co211, eo211⟩ := Kd.R_slice HO883.out; subst eo211; obtain ⟨Ao212, co212, eo212⟩ := Kd.R_slice HO887.out; subst eo212) | (go_at_call 11; (with_reducible refine (laws_iSame.calls kj162 _ _ t880 _ _ t884 true _ ?side1 ?side2 ?side3 ?side4 A192.out).mono ?_); (case side1 => repeat (first | exact (Kd.R_reads' HO883.out).2.2 | (with_reducible refine Kd.C_alloc ?_ _) | (with_reducible refine Kd.C_drewN ?_ _) | (with_reducible refine Kd.C_drew ?_))); (case side2 => exact (Kd.R_reads' HO883.out).2.1); (case side3 => repeat (first | exact (Kd.R_reads' HO887.out).2.2 | (with_reducible refine Kd.C_alloc ?_ _) | (with_reducible refine Kd.C_drewN ?_ _) | (with_reducible refine Kd.C_drew ?_))); (case side4 => exact (Kd.R_reads' HO887.out).2.1); rintro e w' ⟨rfl, ⟨nd, rfl⟩⟩; obtain ⟨Ao213, co213, eo213⟩ := Kd.R_slice HO898.out; subst eo213; obtain ⟨Ao214, co214, eo214⟩ := Kd.R_slice HO902.out; subst eo214) | (go_at_call 11; (with_reducible refine (laws_iSame.calls kj162 _ _ t895 _ _ t899 t904 _ ?side1 ?side2 ?side3 ?side4 A195.out).mono ?_); (case side1 => repeat (first | exact (Kd.R_reads' HO898.out).2.2 | (with_reducible refine Kd.C_alloc ?_ _) | (with_reducible refine Kd.C_drewN ?_ _) | (with_reducible refine Kd.C_drew ?_))); (case side2 => exact (Kd.R_reads' HO898.out).2.1); (case side3 => repeat (first | exact (Kd.R_reads' HO902.out).2.2 | (with_reducible refine Kd.C_alloc ?_ _) | (with_reducible refine Kd.C_drewN ?_ _) | (with_reducible refine Kd.C_drew ?_))); (case side4 => exact (Kd.R_reads' HO902.out).2.1); rintro e w' ⟨rfl, ⟨nd, rfl⟩⟩))
                                  go_ret
                                  exact ⟨by first | rfl | (simp [errW_none, errW_some] <;> rfl) | (simp [*, errW_none, errW_some] <;> rfl), bl0 HB.out⟩
                                 ·rw [if_neg c194] at H
                                  have c194b0 : (t896 == t900) = false := by simpa using c194
                                  (try (have c194b1 : decide (t896 = t900) = false := by simpa using c194))
                                  (try (have c194b2 : (t896 == t900) = false := by simpa using c194))
                                  (try (have c194b3 : ¬ (t896 = t900) := by simpa using c194))
                                  clear c194
                                  obtain rfl := Option.some.inj H
                                  exact absurd HT.out (by simp)
                                ·replace c193 := Bool.eq_false_iff.mpr c193
                                 subst c193
                                 rw [if_neg (show ¬ (false = true) by decide)] at H
                                 obtain rfl := Option.some.inj H
                                 exact absurd HT.out (by simp)
                               ·rw [if_neg c191] at H
                                have c191b0 : (t881 == t885) = false := by simpa using c191
                                (try (have c191b1 : decide (t881 = t885) = false := by simpa using c191))
                                (try (have c191b2 : (t881 == t885) = false := by simpa using c191))
                                (try (have c191b3 : ¬ (t881 = t885) := by simpa using c191))
                                clear c191
                                obtain rfl := Option.some.inj H
                                exact absurd HT.out (by simp)
                              ·rw [if_neg c190] at H
                               have c190b0 : (t869 == t871) = false := beq_eq_false_iff_ne.mpr c190
                               have c190b1 : (t869 != t871) = true := bne_iff_ne.mpr c190
                               obtain rfl := Option.some.inj H
                               exact absurd HT.out (by simp)
                             ·rw [if_neg c189] at H
                              have c189b0 : (t870 == t872) = false := by simpa using c189
                              (try (have c189b1 : decide (t870 = t872) = false := by simpa using c189))
                              (try (have c189b2 : (t870 == t872) = false := by simpa using c189))
                              (try (have c189b3 : ¬ (t870 = t872) := by simpa using c189))
                              clear c189
                              obtain rfl := Option.some.inj H
                              exact absurd HT.out (by simp)
                            ·rw [if_neg c188] at H
                             have c188b0 : (t865 == t867) = false := beq_eq_false_iff_ne.mpr c188
                             have c188b1 : (t865 != t867) = true := bne_iff_ne.mpr c188
                             obtain rfl := Option.some.inj H
                             exact absurd HT.out (by simp)
                           ·rw [if_neg c187] at H
                            have c187b0 : (t866 == t868) = false := by simpa using c187
                            (try (have c187b1 : decide (t866 = t868) = false := by simpa using c187))
                            (try (have c187b2 : (t866 == t868) = false := by simpa using c187))
                            (try (have c187b3 : ¬ (t866 = t868) := by simpa using c187))
                            clear c187
                            obtain rfl := Option.some.inj H
                            exact absurd HT.out (by simp)
                      ·replace c137 := Bool.eq_false_iff.mpr c137
                       subst c137
                       rw [if_neg (show ¬ (false = true) by decide)] at H
                       obtain rfl := Option.some.inj H
                       exact absurd HT.out (by simp)
                    ·replace c134 := Bool.eq_false_iff.mpr c134
                     subst c134
                     rw [if_neg (show ¬ (false = true) by decide)] at H
                     obtain rfl := Option.some.inj H
                     exact absurd HT.out (by simp)
                   ·replace c132 := Bool.eq_false_iff.mpr c132
                    subst c132
                    rw [if_neg (show ¬ (false = true) by decide)] at H
                    obtain rfl := Option.some.inj H
                    exact absurd HT.out (by simp)
             ·replace c90 := Bool.eq_false_iff.mpr c90
              subst c90
              rw [if_neg (show ¬ (false = true) by decide)] at H
              obtain rfl := Option.some.inj H
              exact absurd HT.out (by simp)
           ·replace c87 := Bool.eq_false_iff.mpr c87
            subst c87
            rw [if_neg (show ¬ (false = true) by decide)] at H
            obtain rfl := Option.some.inj H
            exact absurd HT.out (by simp)
       ·replace c18 := Bool.eq_false_iff.mpr c18
        subst c18
        rw [if_neg (show ¬ (false = true) by decide)] at H
        obtain rfl := Option.some.inj H
        exact absurd HT.out (by simp)
     ·replace c15 := Bool.eq_false_iff.mpr c15
      subst c15
      rw [if_neg (show ¬ (false = true) by decide)] at H
      obtain rfl := Option.some.inj H
      exact absurd HT.out (by simp)
   ·replace c12 := Bool.eq_false_iff.mpr c12
    subst c12
    rw [if_neg (show ¬ (false = true) by decide)] at H
    obtain rfl := Option.some.inj H
    exact absurd HT.out (by simp)

/-- THE ONE PURE STATEMENT of laws_FnPhasesWork: yours. -/
def laws_FnPhasesWork.Pure : Prop := ∀ (l0 : List Int) (l1 : List Int), l0.length ≤ maxLen → l0.length * 1 ≤ 140737488351232 → (∀ x ∈ l0, (Lit.int .u8 x).wf = true) → l1.length ≤ maxLen → l1.length * 1 ≤ 140737488351232 → (∀ x ∈ l1, (Lit.int .u8 x).wf = true) → ∃ k, laws_FnPhasesWork.f k l0 l1 = some true
theorem laws_FnPhasesWork.walk (P : laws_FnPhasesWork.Pure) (a0 : Option Addr) (len0 cap0 : Nat) (z0 : List Int) (a1 : Option Addr) (len1 cap1 : Nat) (z1 : List Int) (w : World) (w0 : (a0 = none ∧ len0 = 0 ∧ cap0 = 0 ∧ z0 = []) ∨ ∃ x, a0 = some x ∧ len0 ≤ cap0 ∧ cap0 ≤ maxLen ∧ z0.length = cap0 ∧ (∀ i, i < z0.length → w.cell? (x.add i) = some (.int .u8 (z0.getD i 0))) ∧ ∀ n ∈ z0, (Lit.int .u8 n).wf = true) (y0 : len0 * 1 ≤ 140737488351232) (w1 : (a1 = none ∧ len1 = 0 ∧ cap1 = 0 ∧ z1 = []) ∨ ∃ x, a1 = some x ∧ len1 ≤ cap1 ∧ cap1 ≤ maxLen ∧ z1.length = cap1 ∧ (∀ i, i < z1.length → w.cell? (x.add i) = some (.int .u8 (z1.getD i 0))) ∧ ∀ n ∈ z1, (Lit.int .u8 n).wf = true) (y1 : len1 * 1 ≤ 140737488351232) :
  Calls Try.prog 3 #[.slice a0 len0 cap0, .slice a1 len1 cap1] w fun e w' => e = .returned (.bool true) ∧ Below w.heap.size w w' := by
 obtain ⟨l0, rfl, hr0, hm0, hw0, hc0⟩ := ReadsInt.ofRowC w0
 obtain ⟨l1, rfl, hr1, hm1, hw1, hc1⟩ := ReadsInt.ofRowC w1
 obtain ⟨k, h⟩ := P l0 l1 hm0 y0 hw0 hm1 y1 hw1
 refine (laws_FnPhasesWork.calls k _ _ l0 _ _ l1 true w (Kd.C_of_reads (d := (0 : Int)) (h1 := fun _ => rfl) hr0) hc0 (Kd.C_of_reads (d := (0 : Int)) (h1 := fun _ => rfl) hr1) hc1 rfl h).mono ?_
 rintro e w' ⟨rfl, hd⟩
 exact ⟨rfl, hd⟩

end Go.Proofs.Ytloedgmalnjckaa.PFnPhasesWork
