-- printed by a program of this claim's own
import Derived.Test.YtloedgmalnjckaaPFnPhasesWorkx0
import Derived.Test.YtloedgmalnjckaaPFnPhasesWorkx2
import Derived.Test.YtloedgmalnjckaaPFnPhasesWorkx3
import Derived.Test.YtloedgmalnjckaaPFnPhasesWorkx6
namespace Go.Proofs.Ytloedgmalnjckaa.PFnPhasesWork
open Go.RowKit Go.Proofs.YtloedgmalnjckaaW.PrintWords Go.Proofs.YtloedgmalnjckaaW.PrintLast Go.Proofs.YtloedgmalnjckaaW.PrintMore Go.Proofs.Ytloedgmalnjckaa.Cuts
attribute [local go_sem] max2_int min2_int max_two min_two max_three min_three max_four min_four   -- for this text's walks alone
set_option linter.unusedVariables false
set_option linter.unusedSimpArgs false

/-! ### impl_JoinPhases: function 23 -/
mutual
def impl_JoinPhases.l0 : Nat → List (List Int) → Int → Int → List (List Int) → Int → Int → Option (List Int × Bool)
 | 0, _, _, _, _, _, _ => none
 | k + 1, x0, x4, x5, x15, x16, x17 => if x17 < x16 then (if 0 ≤ x17 then (if x17 < (x15.length : Int) then (if x17 > 0 then (if 0 ≤ (wrap64 (x17 - 1)) then (if (wrap64 (x17 - 1)) < (x0.length : Int) then (if ((rd_L2 x15 x17).length : Int) > ((rd_L2 x0 (wrap64 (x17 - 1))).length : Int) then (some (([] : List Int), false)) else (if 0 < (x0.length : Int) then (if ((rd_L2 x15 x17).length : Int) < (wrap64 (((rd_L2 x0 0).length : Int) - 1)) then (some (([] : List Int), false)) else (impl_JoinPhases.l0 k x0 x4 (wrap64 (x5 + ((rd_L2 x15 x17).length : Int))) x15 x16 (wrap64 (x17 + 1)))) else (none))) else (none)) else (none)) else (if 0 < (x0.length : Int) then (if ((rd_L2 x15 x17).length : Int) < (wrap64 (((rd_L2 x0 0).length : Int) - 1)) then (some (([] : List Int), false)) else (impl_JoinPhases.l0 k x0 x4 (wrap64 (x5 + ((rd_L2 x15 x17).length : Int))) x15 x16 (wrap64 (x17 + 1)))) else (none))) else (none)) else (none)) else (if x5 > 9 then (some (([] : List Int), false)) else (impl_JoinPhases.l1 k x0 x4 (([] : List Int)) x5 0))
def impl_JoinPhases.l1 : Nat → List (List Int) → Int → List Int → Int → Int → Option (List Int × Bool)
 | 0, _, _, _, _, _ => none
 | k + 1, x0, x4, x8, x53, x54 => if x54 < x53 then (if x4 = 0 then (none) else (if 0 ≤ (Int.tmod x54 x4) then (if (Int.tmod x54 x4) < (x0.length : Int) then (if 0 ≤ (wrap64 (Int.tdiv x54 x4)) then (if (wrap64 (Int.tdiv x54 x4)) < ((rd_L2 x0 (Int.tmod x54 x4)).length : Int) then (if x8.length < 17592186044416 then (impl_JoinPhases.l1 k x0 x4 (x8 ++ [rd (rd_L2 x0 (Int.tmod x54 x4)) (wrap64 (Int.tdiv x54 x4))]) x53 (wrap64 (x54 + 1))) else (none)) else (none)) else (none)) else (none)) else (none))) else ((impl_weighed.f x8).bind fun bt522 => (some (bt522.1, bt522.2)))
end
def impl_JoinPhases.f (k : Nat) (l0 : List (List Int)) : Option (List Int × Bool) := (impl_in.f (l0.length : Int) 1 8).bind fun t509 => (if t509 = true then (impl_JoinPhases.l0 k l0 (l0.length : Int) 0 l0 (l0.length : Int) 0) else (some (([] : List Int), false)))

def impl_JoinPhases.T17 : Bool × List (List Nat × List Nat) := (true, [([], []), ([], []), ([], []), ([], []), ([2, 3], [2, 3]), ([1, 4], [1, 4]), ([5], [5]), ([], []), ([], []), ([7, 8], [7, 8]), ([6, 9], [6, 9]), ([10], [10]), ([11], [11]), ([0, 12], [0, 12]), ([13, 13, 0, 1, 2, 3, 4, 5, 6, 7, 8, 9, 10, 11, 12, 13], [0, 13])])
def impl_JoinPhases.B17 : List Nat := [0, 0, 0, 0, 12, 30, 62, 0, 0, 384, 1022, 2046, 4094, 8191, 16383]
theorem impl_JoinPhases.tab17 : rtab .any (opsOf Try.f23 17) = impl_JoinPhases.T17 := by kernel_rfl
theorem impl_JoinPhases.bits17 : waitsOk impl_JoinPhases.T17.2 impl_JoinPhases.B17 = true := by kernel_rfl
set_option maxHeartbeats 80000000 in
set_option maxRecDepth 100000 in
theorem impl_JoinPhases.calls (k : Nat) (A0 : Option Addr) (c0 : Nat) (l0 : List (List Int)) (r1 : List Int) (r2 : Bool) (w : World) (hr0 : Kd.C (Kd.slice 3 (Kd.int .i64)) w A0 l0.length l0) (hc0 : l0.length ≤ c0) (h : impl_JoinPhases.f k l0 = some (r1, r2)) :
  Calls Try.prog 23 #[.slice A0 l0.length c0] w fun e w' => ∃ v0_ : Value, e = .returned (.tuple #[v0_, .bool r2]) ∧ Kd.R (Kd.int .i64) 3 w' w.heap.size (fun _ => True) v0_ r1 ∧ Below w.heap.size w w' := by
 have HR0 := Aside0.mk hr0
 have HC0 := Aside0.mk hc0
 clear hr0 hc0
 have HB := Aside0.mk (Below.refl w.heap.size w)
 have H : ((impl_in.f (l0.length : Int) 1 8).bind fun t509 => (if t509 = true then (impl_JoinPhases.l0 k l0 (l0.length : Int) 0 l0 (l0.length : Int) 0) else (some (([] : List Int), false)))) = some (r1, r2) := h
 clear h
 replace H := Option.bind_eq_some_iff.mp H
 obtain ⟨t509, A20, H⟩ := H
 (try dsimp only at H)
 have A2 := Aside0.mk A20
 clear A20
 by_cases c3 : t509 = true
 ·subst c3
  rw [if_pos rfl] at H
  have H' := Aside0.mk H
  clear H
  go_enter Try.func23, Try.ntmps23
  go_wp2_with (first | ((with_reducible refine gate_callee (f := 82) rfl ?_); refine goesLS_ (some 13) Try.func82 #[.int .i64 (l0.length : Int), .int .i64 1, .int .i64 8] ?_; (with_reducible refine (impl_in.calls (l0.length : Int) 1 8 true _ A2.out).mono ?_); rintro e w' ⟨rfl, ⟨nd, rfl⟩⟩; refine ⟨_, rfl, ?_⟩))
  go_loopg [5, 17] k (fun kq v5 v17 w' => ∃ (x5_1 : Int) (x17_1 : Int), v5 = .int .i64 x5_1 ∧ v17 = .int .i64 x17_1 ∧ Aside0 (impl_JoinPhases.l0 kq l0 (l0.length : Int) x5_1 l0 (l0.length : Int) x17_1 = some (r1, r2)) ∧ Aside0 (kq ≤ k) ∧ Aside0 (Below w.heap.size w w'))
  case atStart => exact ⟨(0), (0), (by first | rfl | (simp; done) | (simp [*]; done)), (by first | rfl | (simp; done) | (simp [*]; done)), H', ⟨Nat.le_refl _⟩, ⟨bl0 HB.out⟩⟩
  case round =>
   clear H'
   try clear c2
   try clear p2
   try clear c3
   obtain ⟨x5_1, x17_1, rfl, rfl, HA, HK1, HB⟩ := hrel
   cases gk with
   | zero => exact absurd HA.out (by simp [impl_JoinPhases.l0])
   | succ k1 =>
    have H := HA.out
    clear HA
    simp only [impl_JoinPhases.l0] at H
    by_cases c4 : x17_1 < (l0.length : Int)
    ·rw [if_pos c4] at H
     have c4b0 : decide (x17_1 < (l0.length : Int)) = true := decide_eq_true c4
     clear c4
     by_cases c5 : 0 ≤ x17_1
     ·rw [if_pos c5] at H
      have c5b0 : decide (0 ≤ x17_1) = true := decide_eq_true c5
      clear c5
      by_cases c6 : x17_1 < (l0.length : Int)
      ·rw [if_pos c6] at H
       have c6b0 : decide (x17_1 < (l0.length : Int)) = true := decide_eq_true c6
       clear c6
       by_cases c7 : x17_1 > 0
       ·rw [if_pos c7] at H
        have c7b0 : decide (0 < x17_1) = true := decide_eq_true c7
        clear c7
        obtain ⟨ji8, hji8⟩ : ∃ j_ : Int, (wrap64 (x17_1 - 1)) = j_ := ⟨_, rfl⟩
        replace H : (if 0 ≤ (ji8) then (if (ji8) < (l0.length : Int) then (if ((rd_L2 l0 x17_1).length : Int) > ((rd_L2 l0 (ji8)).length : Int) then (some (([] : List Int), false)) else (if 0 < (l0.length : Int) then (if ((rd_L2 l0 x17_1).length : Int) < (wrap64 (((rd_L2 l0 0).length : Int) - 1)) then (some (([] : List Int), false)) else (impl_JoinPhases.l0 k1 l0 (l0.length : Int) (wrap64 (x5_1 + ((rd_L2 l0 x17_1).length : Int))) l0 (l0.length : Int) (wrap64 (x17_1 + 1)))) else (none))) else (none)) else (none)) = some (r1, r2) := by first | (rw [hji8] at H; exact H) | (simp only [hji8] at H ⊢; exact H)
        have hji8w : (IntKind.i64.wrap (x17_1 - 1)) = ji8 := (i64_w _).trans hji8
        by_cases c9 : 0 ≤ (ji8)
        ·rw [if_pos c9] at H
         have c9b0 : decide (0 ≤ (ji8)) = true := decide_eq_true c9
         clear c9
         by_cases c10 : (ji8) < (l0.length : Int)
         ·rw [if_pos c10] at H
          have c10b0 : decide ((ji8) < (l0.length : Int)) = true := decide_eq_true c10
          clear c10
          by_cases c11 : ((rd_L2 l0 x17_1).length : Int) > ((rd_L2 l0 (ji8)).length : Int)
          ·rw [if_pos c11] at H
           have c11b0 : decide (((rd_L2 l0 (ji8)).length : Int) < ((rd_L2 l0 x17_1).length : Int)) = true := decide_eq_true c11
           have c11b1 : decide ((rd_L2 l0 (ji8)).length < (rd_L2 l0 x17_1).length) = true := decide_eq_true (Int.ofNat_lt.mp c11)
           clear c11
           simp only [Option.some.injEq, Prod.mk.injEq] at H
           obtain ⟨rfl, rfl⟩ := H
           have p510 : 0 ≤ (x17_1 : Int) := of_decide_eq_true (by first | (with_reducible assumption) | assumption)
           have q510 : x17_1 < (l0.length : Int) := of_decide_eq_true (by first | (with_reducible assumption) | assumption)
           obtain ⟨ad510, A510_0, c510_0, e510, hx510_0, hl510_0, hi510_0⟩ := at_L2 HR0.out x17_1 p510 q510
           cases e510
           (try replace hx510_0 := (HB.out.cell (World.block_lt_of_cell? w _ hx510_0)).trans hx510_0)
           have HR510_0 := Aside0.mk hi510_0
           have HC510_0 := Aside0.mk hl510_0
           clear hi510_0 hl510_0
           replace p510 := eq_true p510
           replace q510 := eq_true q510
           have p511 : 0 ≤ ((ji8) : Int) := of_decide_eq_true (by first | (with_reducible assumption) | assumption)
           have q511 : (ji8) < (l0.length : Int) := of_decide_eq_true (by first | (with_reducible assumption) | assumption)
           obtain ⟨ad511, A511_0, c511_0, e511, hx511_0, hl511_0, hi511_0⟩ := at_L2 HR0.out (ji8) p511 q511
           obtain rfl : ad510 = ad511 := (by injection e511)
           (try replace hx511_0 := (HB.out.cell (World.block_lt_of_cell? w _ hx511_0)).trans hx511_0)
           have HR511_0 := Aside0.mk hi511_0
           have HC511_0 := Aside0.mk hl511_0
           clear hi511_0 hl511_0
           replace p511 := eq_true p511
           replace q511 := eq_true q511
           go_wp2
           go_ret2
           exact ⟨_, by first | rfl | (simp [errW_none, errW_some] <;> rfl) | (simp only [← hji8]; first | rfl | (simp [errW_none, errW_some] <;> rfl)) | (simp [*, errW_none, errW_some] <;> rfl), by first | exact Kd.R_nil _ _ _ _ _ | exact Kd.N_nil _ _ _ _ _ | exact Kd.V_nil _ _ _ _ _ | exact Kd.Q_nil _ _ _ _ _ | exact Kd.S_nil _ _ _ _ _, bl0 HB.out⟩
          ·rw [if_neg c11] at H
           have c11b0 : decide (((rd_L2 l0 (ji8)).length : Int) < ((rd_L2 l0 x17_1).length : Int)) = false := decide_eq_false c11
           have c11l0 := c11b0
           (try simp only [hl510_0] at c11l0)
           have c11l0 := c11b0
           (try simp only [hl511_0] at c11l0)
           have c11b1 : decide ((rd_L2 l0 (ji8)).length < (rd_L2 l0 x17_1).length) = false := decide_eq_false (fun h => c11 (Int.ofNat_lt.mpr h))
           have c11l1 := c11b1
           (try simp only [hl510_0] at c11l1)
           have c11l1 := c11b1
           (try simp only [hl511_0] at c11l1)
           clear c11
           by_cases c12 : 0 < (l0.length : Int)
           ·rw [if_pos c12] at H
            have c12b0 : decide (0 < (l0.length : Int)) = true := decide_eq_true c12
            have c12b1 : decide (0 < l0.length) = true := decide_eq_true (by omega)
            clear c12
            by_cases c13 : ((rd_L2 l0 x17_1).length : Int) < (wrap64 (((rd_L2 l0 0).length : Int) - 1))
            ·rw [if_pos c13] at H
             have c13b0 : decide (((rd_L2 l0 x17_1).length : Int) < (wrap64 (((rd_L2 l0 0).length : Int) - 1))) = true := decide_eq_true c13
             clear c13
             simp only [Option.some.injEq, Prod.mk.injEq] at H
             obtain ⟨rfl, rfl⟩ := H
             have p510 : 0 ≤ (x17_1 : Int) := of_decide_eq_true (by first | (with_reducible assumption) | assumption)
             have q510 : x17_1 < (l0.length : Int) := of_decide_eq_true (by first | (with_reducible assumption) | assumption)
             obtain ⟨ad510, A510_0, c510_0, e510, hx510_0, hl510_0, hi510_0⟩ := at_L2 HR0.out x17_1 p510 q510
             cases e510
             (try replace hx510_0 := (HB.out.cell (World.block_lt_of_cell? w _ hx510_0)).trans hx510_0)
             have HR510_0 := Aside0.mk hi510_0
             have HC510_0 := Aside0.mk hl510_0
             clear hi510_0 hl510_0
             replace p510 := eq_true p510
             replace q510 := eq_true q510
             have p511 : 0 ≤ ((ji8) : Int) := of_decide_eq_true (by first | (with_reducible assumption) | assumption)
             have q511 : (ji8) < (l0.length : Int) := of_decide_eq_true (by first | (with_reducible assumption) | assumption)
             obtain ⟨ad511, A511_0, c511_0, e511, hx511_0, hl511_0, hi511_0⟩ := at_L2 HR0.out (ji8) p511 q511
             obtain rfl : ad510 = ad511 := (by injection e511)
             (try replace hx511_0 := (HB.out.cell (World.block_lt_of_cell? w _ hx511_0)).trans hx511_0)
             have HR511_0 := Aside0.mk hi511_0
             have HC511_0 := Aside0.mk hl511_0
             clear hi511_0 hl511_0
             replace p511 := eq_true p511
             replace q511 := eq_true q511
             have p512 : 0 ≤ (0 : Int) := (by omega)
             have q512 : 0 < (l0.length : Int) := of_decide_eq_true (by first | (with_reducible assumption) | assumption)
             obtain ⟨ad512, A512_0, c512_0, e512, hx512_0, hl512_0, hi512_0⟩ := at_L2 HR0.out 0 p512 q512
             obtain rfl : ad510 = ad512 := (by injection e512)
             have qi512 : (0 < l0.length) = True := eq_true (by omega)
             (try rw [show ((0 : Int)).toNat = 0 from rfl] at hx512_0)
             (try rw [Addr.add_zero'] at hx512_0)
             (try replace hx512_0 := (HB.out.cell (World.block_lt_of_cell? w _ hx512_0)).trans hx512_0)
             have HR512_0 := Aside0.mk hi512_0
             have HC512_0 := Aside0.mk hl512_0
             clear hi512_0 hl512_0
             replace p512 := eq_true p512
             replace q512 := eq_true q512
             go_wp2
             go_ret2
             exact ⟨_, by first | rfl | (simp [errW_none, errW_some] <;> rfl) | (simp only [← hji8]; first | rfl | (simp [errW_none, errW_some] <;> rfl)) | (simp [*, errW_none, errW_some] <;> rfl), by first | exact Kd.R_nil _ _ _ _ _ | exact Kd.N_nil _ _ _ _ _ | exact Kd.V_nil _ _ _ _ _ | exact Kd.Q_nil _ _ _ _ _ | exact Kd.S_nil _ _ _ _ _, bl0 HB.out⟩
            ·rw [if_neg c13] at H
             have c13b0 : decide (((rd_L2 l0 x17_1).length : Int) < (wrap64 (((rd_L2 l0 0).length : Int) - 1))) = false := decide_eq_false c13
             have c13l0 := c13b0
             (try simp only [hl510_0] at c13l0)
             have c13l0 := c13b0
             (try simp only [hl511_0] at c13l0)
             have c13l0 := c13b0
             (try simp only [hl512_0] at c13l0)
             clear c13
             have H' := Aside0.mk H
             clear H
             have p510 : 0 ≤ (x17_1 : Int) := of_decide_eq_true (by first | (with_reducible assumption) | assumption)
             have q510 : x17_1 < (l0.length : Int) := of_decide_eq_true (by first | (with_reducible assumption) | assumption)
             obtain ⟨ad510, A510_0, c510_0, e510, hx510_0, hl510_0, hi510_0⟩ := at_L2 HR0.out x17_1 p510 q510
             cases e510
             (try replace hx510_0 := (HB.out.cell (World.block_lt_of_cell? w _ hx510_0)).trans hx510_0)
             have HR510_0 := Aside0.mk hi510_0
             have HC510_0 := Aside0.mk hl510_0
             clear hi510_0 hl510_0
             replace p510 := eq_true p510
             replace q510 := eq_true q510
             have p511 : 0 ≤ ((ji8) : Int) := of_decide_eq_true (by first | (with_reducible assumption) | assumption)
             have q511 : (ji8) < (l0.length : Int) := of_decide_eq_true (by first | (with_reducible assumption) | assumption)
             obtain ⟨ad511, A511_0, c511_0, e511, hx511_0, hl511_0, hi511_0⟩ := at_L2 HR0.out (ji8) p511 q511
             obtain rfl : ad510 = ad511 := (by injection e511)
             (try replace hx511_0 := (HB.out.cell (World.block_lt_of_cell? w _ hx511_0)).trans hx511_0)
             have HR511_0 := Aside0.mk hi511_0
             have HC511_0 := Aside0.mk hl511_0
             clear hi511_0 hl511_0
             replace p511 := eq_true p511
             replace q511 := eq_true q511
             have p512 : 0 ≤ (0 : Int) := (by omega)
             have q512 : 0 < (l0.length : Int) := of_decide_eq_true (by first | (with_reducible assumption) | assumption)
             obtain ⟨ad512, A512_0, c512_0, e512, hx512_0, hl512_0, hi512_0⟩ := at_L2 HR0.out 0 p512 q512
             obtain rfl : ad510 = ad512 := (by injection e512)
             have qi512 : (0 < l0.length) = True := eq_true (by omega)
             (try rw [show ((0 : Int)).toNat = 0 from rfl] at hx512_0)
             (try rw [Addr.add_zero'] at hx512_0)
             (try replace hx512_0 := (HB.out.cell (World.block_lt_of_cell? w _ hx512_0)).trans hx512_0)
             have HR512_0 := Aside0.mk hi512_0
             have HC512_0 := Aside0.mk hl512_0
             clear hi512_0 hl512_0
             replace p512 := eq_true p512
             replace q512 := eq_true q512
             go_wp2
             go_roundg k1
             case measure => have := HK1.out; omega
             case rel => exact ⟨(wrap64 (x5_1 + ((rd_L2 l0 x17_1).length : Int))), (wrap64 (x17_1 + 1)), (by first | rfl | (simp; done) | (simp [*]; done)), (by first | rfl | (simp; done) | (simp [*]; done)), H', ⟨by have := HK1.out; omega⟩, ⟨bl0 HB.out⟩⟩
           ·rw [if_neg c12] at H
            exact absurd H (by simp)
         ·rw [if_neg c10] at H
          exact absurd H (by simp)
        ·rw [if_neg c9] at H
         exact absurd H (by simp)
       ·rw [if_neg c7] at H
        have c7b0 : decide (0 < x17_1) = false := decide_eq_false c7
        clear c7
        by_cases c14 : 0 < (l0.length : Int)
        ·rw [if_pos c14] at H
         have c14b0 : decide (0 < (l0.length : Int)) = true := decide_eq_true c14
         have c14b1 : decide (0 < l0.length) = true := decide_eq_true (by omega)
         clear c14
         by_cases c15 : ((rd_L2 l0 x17_1).length : Int) < (wrap64 (((rd_L2 l0 0).length : Int) - 1))
         ·rw [if_pos c15] at H
          have c15b0 : decide (((rd_L2 l0 x17_1).length : Int) < (wrap64 (((rd_L2 l0 0).length : Int) - 1))) = true := decide_eq_true c15
          clear c15
          simp only [Option.some.injEq, Prod.mk.injEq] at H
          obtain ⟨rfl, rfl⟩ := H
          have p510 : 0 ≤ (x17_1 : Int) := of_decide_eq_true (by first | (with_reducible assumption) | assumption)
          have q510 : x17_1 < (l0.length : Int) := of_decide_eq_true (by first | (with_reducible assumption) | assumption)
          obtain ⟨ad510, A510_0, c510_0, e510, hx510_0, hl510_0, hi510_0⟩ := at_L2 HR0.out x17_1 p510 q510
          cases e510
          (try replace hx510_0 := (HB.out.cell (World.block_lt_of_cell? w _ hx510_0)).trans hx510_0)
          have HR510_0 := Aside0.mk hi510_0
          have HC510_0 := Aside0.mk hl510_0
          clear hi510_0 hl510_0
          replace p510 := eq_true p510
          replace q510 := eq_true q510
          have p513 : 0 ≤ (0 : Int) := (by omega)
          have q513 : 0 < (l0.length : Int) := of_decide_eq_true (by first | (with_reducible assumption) | assumption)
          obtain ⟨ad513, A513_0, c513_0, e513, hx513_0, hl513_0, hi513_0⟩ := at_L2 HR0.out 0 p513 q513
          obtain rfl : ad510 = ad513 := (by injection e513)
          have qi513 : (0 < l0.length) = True := eq_true (by omega)
          (try rw [show ((0 : Int)).toNat = 0 from rfl] at hx513_0)
          (try rw [Addr.add_zero'] at hx513_0)
          (try replace hx513_0 := (HB.out.cell (World.block_lt_of_cell? w _ hx513_0)).trans hx513_0)
          have HR513_0 := Aside0.mk hi513_0
          have HC513_0 := Aside0.mk hl513_0
          clear hi513_0 hl513_0
          replace p513 := eq_true p513
          replace q513 := eq_true q513
          go_wp2
          go_ret2
          exact ⟨_, by first | rfl | (simp [errW_none, errW_some] <;> rfl) | (simp [*, errW_none, errW_some] <;> rfl), by first | exact Kd.R_nil _ _ _ _ _ | exact Kd.N_nil _ _ _ _ _ | exact Kd.V_nil _ _ _ _ _ | exact Kd.Q_nil _ _ _ _ _ | exact Kd.S_nil _ _ _ _ _, bl0 HB.out⟩
         ·rw [if_neg c15] at H
          have c15b0 : decide (((rd_L2 l0 x17_1).length : Int) < (wrap64 (((rd_L2 l0 0).length : Int) - 1))) = false := decide_eq_false c15
          have c15l0 := c15b0
          (try simp only [hl510_0] at c15l0)
          have c15l0 := c15b0
          (try simp only [hl511_0] at c15l0)
          have c15l0 := c15b0
          (try simp only [hl512_0] at c15l0)
          have c15l0 := c15b0
          (try simp only [hl513_0] at c15l0)
          clear c15
          have H' := Aside0.mk H
          clear H
          have p510 : 0 ≤ (x17_1 : Int) := of_decide_eq_true (by first | (with_reducible assumption) | assumption)
          have q510 : x17_1 < (l0.length : Int) := of_decide_eq_true (by first | (with_reducible assumption) | assumption)
          obtain ⟨ad510, A510_0, c510_0, e510, hx510_0, hl510_0, hi510_0⟩ := at_L2 HR0.out x17_1 p510 q510
          cases e510
          (try replace hx510_0 := (HB.out.cell (World.block_lt_of_cell? w _ hx510_0)).trans hx510_0)
          have HR510_0 := Aside0.mk hi510_0
          have HC510_0 := Aside0.mk hl510_0
          clear hi510_0 hl510_0
          replace p510 := eq_true p510
          replace q510 := eq_true q510
          have p513 : 0 ≤ (0 : Int) := (by omega)
          have q513 : 0 < (l0.length : Int) := of_decide_eq_true (by first | (with_reducible assumption) | assumption)
          obtain ⟨ad513, A513_0, c513_0, e513, hx513_0, hl513_0, hi513_0⟩ := at_L2 HR0.out 0 p513 q513
          obtain rfl : ad510 = ad513 := (by injection e513)
          have qi513 : (0 < l0.length) = True := eq_true (by omega)
          (try rw [show ((0 : Int)).toNat = 0 from rfl] at hx513_0)
          (try rw [Addr.add_zero'] at hx513_0)
          (try replace hx513_0 := (HB.out.cell (World.block_lt_of_cell? w _ hx513_0)).trans hx513_0)
          have HR513_0 := Aside0.mk hi513_0
          have HC513_0 := Aside0.mk hl513_0
          clear hi513_0 hl513_0
          replace p513 := eq_true p513
          replace q513 := eq_true q513
          go_wp2
          go_roundg k1
          case measure => have := HK1.out; omega
          case rel => exact ⟨(wrap64 (x5_1 + ((rd_L2 l0 x17_1).length : Int))), (wrap64 (x17_1 + 1)), (by first | rfl | (simp; done) | (simp [*]; done)), (by first | rfl | (simp; done) | (simp [*]; done)), H', ⟨by have := HK1.out; omega⟩, ⟨bl0 HB.out⟩⟩
        ·rw [if_neg c14] at H
         exact absurd H (by simp)
      ·rw [if_neg c6] at H
       exact absurd H (by simp)
     ·rw [if_neg c5] at H
      exact absurd H (by simp)
    ·rw [if_neg c4] at H
     have c4b0 : decide (x17_1 < (l0.length : Int)) = false := decide_eq_false c4
     have c4l0 := c4b0
     (try simp only [hl510_0] at c4l0)
     have c4l0 := c4b0
     (try simp only [hl511_0] at c4l0)
     have c4l0 := c4b0
     (try simp only [hl512_0] at c4l0)
     have c4l0 := c4b0
     (try simp only [hl513_0] at c4l0)
     clear c4
     by_cases c16 : x5_1 > 9
     ·rw [if_pos c16] at H
      have c16b0 : decide (9 < x5_1) = true := decide_eq_true c16
      clear c16
      simp only [Option.some.injEq, Prod.mk.injEq] at H
      obtain ⟨rfl, rfl⟩ := H
      go_wp2
      go_ret2
      exact ⟨_, by first | rfl | (simp [errW_none, errW_some] <;> rfl) | (simp [*, errW_none, errW_some] <;> rfl), by first | exact Kd.R_nil _ _ _ _ _ | exact Kd.N_nil _ _ _ _ _ | exact Kd.V_nil _ _ _ _ _ | exact Kd.Q_nil _ _ _ _ _ | exact Kd.S_nil _ _ _ _ _, bl0 HB.out⟩
     ·rw [if_neg c16] at H
      have c16b0 : decide (9 < x5_1) = false := decide_eq_false c16
      clear c16
      obtain ⟨y514, hy514⟩ : ∃ y_ : List Int, y_ = (([] : List Int)) := ⟨_, rfl⟩
      replace H : (impl_JoinPhases.l1 k1 l0 (l0.length : Int) y514 x5_1 0) = some (r1, r2) := by first | (rw [hy514]; with_reducible exact H) | (have H2_ := (Option.bind_some _ _).symm.trans H; rw [hy514]; with_reducible exact H2_) | (have H2_ := (Option.bind_some _ _).symm.trans H; with_reducible exact H2_) | with_reducible exact H | (rw [hy514]; exact H) | exact H
      have Ny514 := Aside0.mk hy514
      clear hy514
      have H' := Aside0.mk H
      clear H
      go_wp2_with (first | ((with_reducible refine gate_dst (N := 52) rfl ?_); (try (refine gate_guard (by rfl) ?_; dsimp only)); refine Kd.R_lit (Kd.int .i64) _ 3 ?hg (N := 52) ?hd (xs := ([] : List Int)) (inner := []) (ok := fun _ => True) (okp := fun _ => True) ?hr ?hp (fun _ hk => hk) trivial (Below.refl _ _) (Nat.le_refl _) (by simp) ?_; (case hd => rfl); (case hg => rfl); (case hr => first | (go_simp; done) | (go_simp; rfl)); (case hp => exact (Reps.none _ _)); intro v515 w17 ho18 hb hg_ hnew_; clear hg_ hnew_; (first | rw [← Ny514.out] at ho18 | (simp only [Int.reduceToNat] at ho18; rw [← Ny514.out] at ho18)); have n0_ := Aside0.mk (Kd.R_lower ho18 (below_size (bl0 HB.out))); have n1_ := Aside0.mk (below_step (bl0 HB.out) hb); clear HB; have HO516 := n0_; have HB := n1_; clear n0_ n1_; clear hb ho18))
      go_loopg [8, 54] k1 (fun kq v8 v54 w' => ∃ (x8_2 : List Int) (x54_2 : Int), v54 = .int .i64 x54_2 ∧ Aside0 (impl_JoinPhases.l1 kq l0 (l0.length : Int) x8_2 x5_1 x54_2 = some (r1, r2)) ∧ Aside0 (kq ≤ k1) ∧ Aside0 (Kd.R (Kd.int .i64) 3 w' w.heap.size (fun _ => True) v8 x8_2) ∧ Aside0 (Below w.heap.size w w'))
      case atStart => exact ⟨(y514), (0), (by first | rfl | (simp; done) | (simp [*]; done)), H', ⟨Nat.le_refl _⟩, ⟨kr HO516.out⟩, ⟨bl0 HB.out⟩⟩
      case round =>
       clear H'
       try clear c1
       try clear c2
       try clear p2
       try clear c3
       try clear c4
       try clear c4b0
       try clear c5
       try clear c5b0
       try clear p5
       try clear q5
       try clear hx5
       try clear qi5
       try clear c6
       try clear c6b0
       try clear p6
       try clear c7
       try clear c7b0
       try clear c8
       try clear c9
       try clear c9b0
       try clear c10
       try clear c10b0
       try clear c11
       try clear c11b0
       try clear c11b1
       try clear c12
       try clear c12b0
       try clear c12b1
       try clear c13
       try clear c13b0
       try clear c14
       try clear c14b0
       try clear c14b1
       try clear c15
       try clear c15b0
       try clear c16
       try clear c16b0
       try clear hx510_0
       try clear hx511_0
       try clear hx512_0
       try clear hx513_0
       try clear p2
       try clear p510
       try clear p511
       try clear p512
       try clear p513
       try clear q510
       try clear q511
       try clear q512
       try clear q513
       obtain ⟨x8_2, x54_2, rfl, HA, HK2, HO_8, HB⟩ := hrel
       cases gk with
       | zero => exact absurd HA.out (by simp [impl_JoinPhases.l1])
       | succ k2 =>
        have H := HA.out
        clear HA
        simp only [impl_JoinPhases.l1] at H
        by_cases c19 : x54_2 < x5_1
        ·rw [if_pos c19] at H
         have c19b0 : decide (x54_2 < x5_1) = true := decide_eq_true c19
         clear c19
         by_cases c20 : (l0.length : Int) = 0
         ·rw [if_pos c20] at H
          exact absurd H (by simp)
         ·rw [if_neg c20] at H
          have c20b0 : ((l0.length : Int) == 0) = false := beq_eq_false_iff_ne.mpr c20
          have c20b1 : ((l0.length : Int) != 0) = true := bne_iff_ne.mpr c20
          have c20b2 : ¬ (l0 = []) := fun h_ => c20 (by rw [h_]; rfl)
          obtain ⟨ji21, hji21⟩ : ∃ j_ : Int, (Int.tmod x54_2 (l0.length : Int)) = j_ := ⟨_, rfl⟩
          replace H : (if 0 ≤ (ji21) then (if (ji21) < (l0.length : Int) then (if 0 ≤ (wrap64 (Int.tdiv x54_2 (l0.length : Int))) then (if (wrap64 (Int.tdiv x54_2 (l0.length : Int))) < ((rd_L2 l0 (ji21)).length : Int) then (if x8_2.length < 17592186044416 then (impl_JoinPhases.l1 k2 l0 (l0.length : Int) (x8_2 ++ [rd (rd_L2 l0 (ji21)) (wrap64 (Int.tdiv x54_2 (l0.length : Int)))]) x5_1 (wrap64 (x54_2 + 1))) else (none)) else (none)) else (none)) else (none)) else (none)) = some (r1, r2) := by first | (rw [hji21] at H; exact H) | (simp only [hji21] at H ⊢; exact H)
          by_cases c22 : 0 ≤ (ji21)
          ·rw [if_pos c22] at H
           have c22b0 : decide (0 ≤ (ji21)) = true := decide_eq_true c22
           clear c22
           by_cases c23 : (ji21) < (l0.length : Int)
           ·rw [if_pos c23] at H
            have c23b0 : decide ((ji21) < (l0.length : Int)) = true := decide_eq_true c23
            clear c23
            obtain ⟨ji24, hji24⟩ : ∃ j_ : Int, (wrap64 (Int.tdiv x54_2 (l0.length : Int))) = j_ := ⟨_, rfl⟩
            replace H : (if 0 ≤ (ji24) then (if (ji24) < ((rd_L2 l0 (ji21)).length : Int) then (if x8_2.length < 17592186044416 then (impl_JoinPhases.l1 k2 l0 (l0.length : Int) (x8_2 ++ [rd (rd_L2 l0 (ji21)) (ji24)]) x5_1 (wrap64 (x54_2 + 1))) else (none)) else (none)) else (none)) = some (r1, r2) := by first | (rw [hji24] at H; exact H) | (simp only [hji24] at H ⊢; exact H)
            have hji24w : (IntKind.i64.wrap (Int.tdiv x54_2 (l0.length : Int))) = ji24 := (i64_w _).trans hji24
            by_cases c25 : 0 ≤ (ji24)
            ·rw [if_pos c25] at H
             have c25b0 : decide (0 ≤ (ji24)) = true := decide_eq_true c25
             clear c25
             by_cases c26 : (ji24) < ((rd_L2 l0 (ji21)).length : Int)
             ·rw [if_pos c26] at H
              have c26b0 : decide ((ji24) < ((rd_L2 l0 (ji21)).length : Int)) = true := decide_eq_true c26
              clear c26
              by_cases c27 : x8_2.length < 17592186044416
              ·rw [if_pos c27] at H
               have LMc27 := Aside0.mk c27
               clear c27
               obtain ⟨y519, hy519⟩ : ∃ y_ : List Int, y_ = (x8_2 ++ [rd (rd_L2 l0 (ji21)) (ji24)]) := ⟨_, rfl⟩
               replace H : (impl_JoinPhases.l1 k2 l0 (l0.length : Int) y519 x5_1 (wrap64 (x54_2 + 1))) = some (r1, r2) := by first | (rw [hy519]; with_reducible exact H) | (have H2_ := (Option.bind_some _ _).symm.trans H; rw [hy519]; with_reducible exact H2_) | (have H2_ := (Option.bind_some _ _).symm.trans H; with_reducible exact H2_) | with_reducible exact H | (rw [hy519]; exact H) | exact H
               have Ny519 := Aside0.mk hy519
               clear hy519
               have H' := Aside0.mk H
               clear H
               try go_wp2
               have n0_ := Aside0.mk (Kd.R_drew HO_8.out)
               have n1_ := Aside0.mk (below_drew1 HB.out)
               clear HO_8
               clear HB
               have HO_8 := n0_
               have HB := n1_
               clear n0_ n1_
               have p517 : 0 ≤ ((ji21) : Int) := of_decide_eq_true (by first | (with_reducible assumption) | assumption)
               have q517 : (ji21) < (l0.length : Int) := of_decide_eq_true (by first | (with_reducible assumption) | assumption)
               obtain ⟨ad517, A517_0, c517_0, e517, hx517_0, hl517_0, hi517_0⟩ := at_L2 HR0.out (ji21) p517 q517
               have hw517_0 := hx517_0
               cases e517
               (try replace hx517_0 := (HB.out.cell (World.block_lt_of_cell? w _ hx517_0)).trans hx517_0)
               have HR517_0 := Aside0.mk hi517_0
               have HC517_0 := Aside0.mk hl517_0
               clear hi517_0 hl517_0
               replace p517 := eq_true p517
               replace q517 := eq_true q517
               have p518 : 0 ≤ ((ji24) : Int) := of_decide_eq_true (by first | (with_reducible assumption) | assumption)
               have q518 : (ji24) < ((rd_L2 l0 (ji21)).length : Int) := of_decide_eq_true (by first | (with_reducible assumption) | assumption)
               obtain ⟨ad518, e518, hx518_0⟩ := Kd.at_int HR517_0.out (ji24) p518 q518
               have hw518_0 := hx518_0
               cases e518
               (try replace hx518_0 := (HB.out.cell (World.block_lt_of_cell? w _ hx518_0)).trans hx518_0)
               replace p518 := eq_true p518
               replace q518 := eq_true q518
               refine start_ (n := 15) (S := fun w' => w'.cell? (ad517.add ((ji21)).toNat) = some (.slice (some ad518) (rd_L2 l0 (ji21)).length c517_0) ∧ w'.cell? (ad518.add ((ji24)).toNat) = some (.int .i64 (rd (rd_L2 l0 (ji21)) (ji24)))) (ds := []) (bm 15 0) (by kernel_rfl) rfl rfl ⟨((HB.out.cell (World.block_lt_of_cell? w _ hw517_0)).trans hw517_0), ((HB.out.cell (World.block_lt_of_cell? w _ hw518_0)).trans hw518_0)⟩ (fun hHeld => ?_); refine with_tabW impl_JoinPhases.tab17 impl_JoinPhases.bits17 (fun HT_ HW_ => ?_)
               generalize wr.drew = w28 at HO_8 HB HR517_0 hx517_0 hx518_0 hHeld ⊢
               refine pureT_ 0 57 (bm 15 1) HT_.out ?_
               refine pureT_ 1 58 (bm 15 3) HT_.out ?_
               refine pureT_ 2 59 (bm 15 7) HT_.out ?_
               refine pureT_ 3 60 (bm 15 15) HT_.out ?_
               refine pureT_ 4 61 (bm 15 31) HT_.out ?_
               refine pureT_ 5 62 (bm 15 63) HT_.out ?_
               refine pureT_ 7 64 (bm 15 191) HT_.out ?_
               refine pureT_ 8 65 (bm 15 447) HT_.out ?_
               refine pureT_ 9 66 (bm 15 959) HT_.out ?_
               refine take_ (i := 6) (N := some 63) (v := ?_) (a' := ?_) (bm 15 1023) rfl rfl (take_ofW HT_.out HW_.out (by kernel_rfl)) (fun _ _ _ h => h) (Or.inl ⟨by rfl, ?_⟩) hHeld ?_ ?_
               rotate_left
               ·rintro w' ⟨s0, s1⟩
                go_simp
                with_reducible rfl
               rotate_left
               ·simp only [Act.put, List.setIfInBounds_toArray, List.set_cons_zero, List.set_cons_succ, i64_w, i32_w]
                rfl
               refine pureT_ 10 67 (bm 15 2047) HT_.out ?_
               refine take_ (i := 11) (N := some 68) (v := ?_) (a' := ?_) (bm 15 4095) rfl rfl (take_ofW HT_.out HW_.out (by kernel_rfl)) (fun _ _ _ h => h) (Or.inl ⟨by rfl, ?_⟩) hHeld ?_ ?_
               rotate_left
               ·rintro w' ⟨s0, s1⟩
                go_simp
                with_reducible rfl
               rotate_left
               ·simp only [Act.put, List.setIfInBounds_toArray, List.set_cons_zero, List.set_cons_succ, i64_w, i32_w]
                rfl
               refine one_ (i := 12) (N := some 69) (bm 15 8191) rfl rfl (one_of HT_.out (by kernel_rfl)) (by decide) (fun K hK => ?_)
               refine value_ (w1 := ?_) (v := ?_) (by rfl) rfl ?_ ?_
               rotate_left 2
               ·go_simp
                constructor
                ·rfl
                ·rfl
               refine hK.out _ _ ⟨(World.cell?_alloc_lt _ _ _ (World.block_lt_of_cell? _ _ (((HB.out.cell (World.block_lt_of_cell? w _ hw517_0)).trans hw517_0)))).trans (((HB.out.cell (World.block_lt_of_cell? w _ hw517_0)).trans hw517_0)), (World.cell?_alloc_lt _ _ _ (World.block_lt_of_cell? _ _ (((HB.out.cell (World.block_lt_of_cell? w _ hw518_0)).trans hw518_0)))).trans (((HB.out.cell (World.block_lt_of_cell? w _ hw518_0)).trans hw518_0))⟩ (fun hHeld => ?_)
               clear hK K
               refine norm_ (a' := ?_) ?_ ?_
               rotate_left
               ·show Act.put _ (some 69) _ = _
                simp only [Act.put, List.setIfInBounds_toArray, List.set_cons_zero, List.set_cons_succ, i64_w, i32_w]
                rfl
               refine one_ (i := 13) (N := some 70) (bm 15 16383) rfl rfl (one_of HT_.out (by kernel_rfl)) (by decide) (fun K hK => ?_)
               refine Kd.R_append_step (Kd.int .i64) (w0 := w) w.heap.size (by rfl) (.tmp 57) (.tmp 69) 24 3 (.int .i64 0) 8 rfl Try.underlying24 info3 rfl (by decide) (by omega) u8 x8_2 (rd (rd_L2 l0 (ji21)) (ji24)) [.int .i64 (rd (rd_L2 l0 (ji21)) (ji24))] (fun _ => True) (fun _ => False) rfl rfl ?aP (fun _ hk => hk.elim) ?aF ?aO ?aB ?aS ?aL ?_
               (case aP => exact rfl)
               (case aB => exact (bl0 HB.out))
               (case aF => exact (fun _ _ => trivial))
               (case aO => exact (kr HO_8.out))
               (case aS => exact (below_size (bl0 HB.out)))
               (case aL => have := LMc27.out; omega)
               intro v520 w29 ho hb hg hat
               rw [← Ny519.out] at ho
               have n0_ := Aside0.mk (hb)
               have n1_ := Aside0.mk (ho)
               clear HB
               clear HO_8
               have HB := n0_
               have HO521 := n1_
               clear n0_ n1_
               clear ho hb hg hat
               refine hK.out _ _ ⟨((HB.out.cell (World.block_lt_of_cell? w _ hw517_0)).trans hw517_0), ((HB.out.cell (World.block_lt_of_cell? w _ hw518_0)).trans hw518_0)⟩ (fun hHeld => ?_)
               clear hK K
               refine norm_ (a' := ?_) ?_ ?_
               rotate_left
               ·show Act.put _ (some 70) _ = _
                simp only [Act.put, List.setIfInBounds_toArray, List.set_cons_zero, List.set_cons_succ, i64_w, i32_w]
                rfl
               refine pureT_ 14 8 (bm 15 32767) HT_.out ?_
               refine done_ (done_of HT_.out (by kernel_rfl)) ?_
               try go_wp2
               go_roundg k2
               case measure => have := HK1.out; have := HK2.out; omega
               case rel => exact ⟨(y519), (wrap64 (x54_2 + 1)), (by first | rfl | (simp; done) | (simp [*]; done)), H', ⟨by have := HK1.out; have := HK2.out; omega⟩, ⟨kr HO521.out⟩, ⟨bl0 HB.out⟩⟩
              ·rw [if_neg c27] at H
               exact absurd H (by simp)
             ·rw [if_neg c26] at H
              exact absurd H (by simp)
            ·rw [if_neg c25] at H
             exact absurd H (by simp)
           ·rw [if_neg c23] at H
            exact absurd H (by simp)
          ·rw [if_neg c22] at H
           exact absurd H (by simp)
        ·rw [if_neg c19] at H
         have c19b0 : decide (x54_2 < x5_1) = false := decide_eq_false c19
         clear c19
         replace H := Option.bind_eq_some_iff.mp H
         obtain ⟨⟨t522, t525⟩, A300, H⟩ := H
         (try dsimp only at H)
         have A30 := Aside0.mk A300
         clear A300
         simp only [Option.some.injEq, Prod.mk.injEq] at H
         obtain ⟨rfl, rfl⟩ := H
         obtain ⟨Ao31, co31, eo31⟩ := Kd.R_slice HO_8.out
         subst eo31
         go_wp2_with (first | ((with_reducible refine gate_callee (f := 90) rfl ?_); refine goesLS_ (some 73) Try.func90 #[.slice Ao31 x8_2.length co31] ?_; (with_reducible refine (impl_weighed.calls (fun k_ => some k_ = (.slice Ao31 x8_2.length co31 : Value).ownBlock) (.slice Ao31 x8_2.length co31) x8_2 t522 t525 w _ ?side1 ?side2 A30.out).mono ?_); (case side1 => repeat (first | (with_reducible first | exact HB.out | apply below_alloc | apply pw_below_drewN | apply below_drew1) | exact HB.out)); (case side2 => exact Kd.R_tight rfl HO_8.out); rintro e w32 ⟨v523, rfl, ho0, hb, hkp⟩; refine ⟨_, rfl, ?_⟩; have n0_ := Aside0.mk (Kd.R_mono (ok' := fun k_ => True) ho0 (fun k_ hk_ => trivial)); have n1_ := Aside0.mk (hb); clear HB; clear HO_8; have HO524 := n0_; have HB := n1_; clear n0_ n1_; (try clear hb); (try clear hkp); (try clear ho0)))
         go_ret2
         exact ⟨_, by first | rfl | (simp [errW_none, errW_some] <;> rfl) | (simp [*, errW_none, errW_some] <;> rfl), kr HO524.out, bl0 HB.out⟩
 ·replace c3 := Bool.eq_false_iff.mpr c3
  subst c3
  rw [if_neg (show ¬ (false = true) by decide)] at H
  simp only [Option.some.injEq, Prod.mk.injEq] at H
  obtain ⟨rfl, rfl⟩ := H
  go_enter Try.func23, Try.ntmps23
  go_wp2_with (first | ((with_reducible refine gate_callee (f := 82) rfl ?_); refine goesLS_ (some 13) Try.func82 #[.int .i64 (l0.length : Int), .int .i64 1, .int .i64 8] ?_; (with_reducible refine (impl_in.calls (l0.length : Int) 1 8 false _ A2.out).mono ?_); rintro e w' ⟨rfl, ⟨nd, rfl⟩⟩; refine ⟨_, rfl, ?_⟩))
  go_ret2
  exact ⟨_, by first | rfl | (simp [errW_none, errW_some] <;> rfl) | (simp [*, errW_none, errW_some] <;> rfl), by first | exact Kd.R_nil _ _ _ _ _ | exact Kd.N_nil _ _ _ _ _ | exact Kd.V_nil _ _ _ _ _ | exact Kd.Q_nil _ _ _ _ _ | exact Kd.S_nil _ _ _ _ _, bl0 HB.out⟩

/-! ### spec_weIf: function 91 -/
def spec_weIf.f (k : Nat) (l0 : List Int) : Option (List Int × Bool) := (spec_weGood.f k l0).bind fun t526 => (if t526 = true then (some (l0, true)) else (some (([] : List Int), false)))

set_option maxHeartbeats 80000000 in
set_option maxRecDepth 100000 in
theorem spec_weIf.calls (k : Nat) (P0_ : Nat → Prop) (u9000_ : Value) (l0 : List Int) (r1 : List Int) (r2 : Bool) (w0 w : World) (hB : Below w0.heap.size w0 w) (ho0 : Kd.R (Kd.int .i64) 3 w w0.heap.size P0_ u9000_ l0) (h : spec_weIf.f k l0 = some (r1, r2)) :
  Calls Try.prog 91 #[u9000_] w fun e w' => ∃ v0_ : Value, e = .returned (.tuple #[v0_, .bool r2]) ∧ Kd.R (Kd.int .i64) 3 w' w0.heap.size (fun k_ => (P0_ k_ ∨ w.heap.size ≤ k_)) v0_ r1 ∧ Below w0.heap.size w0 w' ∧ Kept w w' (fun k_ => P0_ k_) := by
 have HO0 := Aside0.mk (show Kd.R (Kd.int .i64) 3 w w0.heap.size (fun k_ => (P0_ k_ ∨ w.heap.size ≤ k_)) u9000_ l0 from Kd.R_mono ho0 (fun k_ hk => (.inl hk)))
 have HK := Aside0.mk (Kept.refl w (fun k_ => P0_ k_))
 have HW0 := Aside0.mk hB.size
 have HB := Aside0.mk hB
 clear hB
 have H : ((spec_weGood.f k l0).bind fun t526 => (if t526 = true then (some (l0, true)) else (some (([] : List Int), false)))) = some (r1, r2) := h
 clear h
 replace H := Option.bind_eq_some_iff.mp H
 obtain ⟨t526, A20, H⟩ := H
 (try dsimp only at H)
 have A2 := Aside0.mk A20
 clear A20
 by_cases c3 : t526 = true
 ·subst c3
  rw [if_pos rfl] at H
  simp only [Option.some.injEq, Prod.mk.injEq] at H
  obtain ⟨rfl, rfl⟩ := H
  obtain ⟨Ao4, co4, eo4⟩ := Kd.R_slice HO0.out
  subst eo4
  go_enter Try.func91, Try.ntmps91
  go_wp2_with (first | ((with_reducible refine gate_callee (f := 86) rfl ?_); refine goesLS_ (some 5) Try.func86 #[.slice Ao4 l0.length co4] ?_; (with_reducible refine (spec_weGood.calls k _ _ l0 true _ ?side1 ?side2 A2.out).mono ?_); (case side1 => repeat (first | exact (Kd.R_reads' HO0.out).2.2 | (with_reducible refine Kd.C_alloc ?_ _) | (with_reducible refine Kd.C_drewN ?_ _) | (with_reducible refine Kd.C_drew ?_))); (case side2 => exact (Kd.R_reads' HO0.out).2.1); rintro e w' ⟨rfl, ⟨nd, rfl⟩⟩; refine ⟨_, rfl, ?_⟩))
  go_ret2
  exact ⟨_, by first | rfl | (simp [errW_none, errW_some] <;> rfl) | (simp [*, errW_none, errW_some] <;> rfl), kr HO0.out, bl0 HB.out, by repeat (first | (with_reducible first | exact HK.out | apply Kept.alloc | apply Kept.drewN | apply Kept.drew) | exact HK.out)⟩
 ·replace c3 := Bool.eq_false_iff.mpr c3
  subst c3
  rw [if_neg (show ¬ (false = true) by decide)] at H
  simp only [Option.some.injEq, Prod.mk.injEq] at H
  obtain ⟨rfl, rfl⟩ := H
  obtain ⟨Ao5, co5, eo5⟩ := Kd.R_slice HO0.out
  subst eo5
  go_enter Try.func91, Try.ntmps91
  go_wp2_with (first | ((with_reducible refine gate_callee (f := 86) rfl ?_); refine goesLS_ (some 5) Try.func86 #[.slice Ao5 l0.length co5] ?_; (with_reducible refine (spec_weGood.calls k _ _ l0 false _ ?side1 ?side2 A2.out).mono ?_); (case side1 => repeat (first | exact (Kd.R_reads' HO0.out).2.2 | (with_reducible refine Kd.C_alloc ?_ _) | (with_reducible refine Kd.C_drewN ?_ _) | (with_reducible refine Kd.C_drew ?_))); (case side2 => exact (Kd.R_reads' HO0.out).2.1); rintro e w' ⟨rfl, ⟨nd, rfl⟩⟩; refine ⟨_, rfl, ?_⟩))
  go_ret2
  exact ⟨_, by first | rfl | (simp [errW_none, errW_some] <;> rfl) | (simp [*, errW_none, errW_some] <;> rfl), by first | exact Kd.R_nil _ _ _ _ _ | exact Kd.N_nil _ _ _ _ _ | exact Kd.V_nil _ _ _ _ _ | exact Kd.Q_nil _ _ _ _ _ | exact Kd.S_nil _ _ _ _ _, bl0 HB.out, by repeat (first | (with_reducible first | exact HK.out | apply Kept.alloc | apply Kept.drewN | apply Kept.drew) | exact HK.out)⟩

/-! ### spec_JoinPhases: function 24 -/
mutual
def spec_JoinPhases.l0 : Nat → List (List Int) → Int → Int → List (List Int) → Int → Int → Option (List Int × Bool)
 | 0, _, _, _, _, _, _ => none
 | k + 1, x0, x4, x5, x16, x17, x18 => if x18 < x17 then (if 0 ≤ x18 then (if x18 < (x16.length : Int) then (if ((rd_L2 x16 x18).length : Int) > 9 then (some (([] : List Int), false)) else (spec_JoinPhases.l0 k x0 x4 (wrap64 (x5 + ((rd_L2 x16 x18).length : Int))) x16 x17 (wrap64 (x18 + 1)))) else (none)) else (none)) else (spec_JoinPhases.l1 k x0 x4 x5 ([] : List Int) 0)
def spec_JoinPhases.l1 : Nat → List (List Int) → Int → Int → List Int → Int → Option (List Int × Bool)
 | 0, _, _, _, _, _ => none
 | k + 1, x0, x4, x5, x8, x9 => if x9 < x5 then (if x4 = 0 then (none) else (if 0 ≤ (Int.tmod x9 x4) then (if (Int.tmod x9 x4) < (x0.length : Int) then (if (wrap64 (Int.tdiv x9 x4)) ≥ ((rd_L2 x0 (Int.tmod x9 x4)).length : Int) then (some (([] : List Int), false)) else (if 0 ≤ (wrap64 (Int.tdiv x9 x4)) then (if (wrap64 (Int.tdiv x9 x4)) < ((rd_L2 x0 (Int.tmod x9 x4)).length : Int) then (if x8.length < 17592186044416 then (spec_JoinPhases.l1 k x0 x4 x5 (x8 ++ [rd (rd_L2 x0 (Int.tmod x9 x4)) (wrap64 (Int.tdiv x9 x4))]) (wrap64 (x9 + 1))) else (none)) else (none)) else (none))) else (none)) else (none))) else ((spec_weIf.f k x8).bind fun bt534 => (some (bt534.1, bt534.2)))
end
def spec_JoinPhases.f (k : Nat) (l0 : List (List Int)) : Option (List Int × Bool) := (spec_l1In.f (l0.length : Int) 1 8).bind fun t527 => (if t527 = true then (spec_JoinPhases.l0 k l0 (l0.length : Int) 0 l0 (l0.length : Int) 0) else (some (([] : List Int), false)))

set_option maxHeartbeats 80000000 in
set_option maxRecDepth 100000 in
theorem spec_JoinPhases.calls (k : Nat) (A0 : Option Addr) (c0 : Nat) (l0 : List (List Int)) (r1 : List Int) (r2 : Bool) (w : World) (hr0 : Kd.C (Kd.slice 3 (Kd.int .i64)) w A0 l0.length l0) (hc0 : l0.length ≤ c0) (h : spec_JoinPhases.f k l0 = some (r1, r2)) :
  Calls Try.prog 24 #[.slice A0 l0.length c0] w fun e w' => ∃ v0_ : Value, e = .returned (.tuple #[v0_, .bool r2]) ∧ Kd.R (Kd.int .i64) 3 w' w.heap.size (fun _ => True) v0_ r1 ∧ Below w.heap.size w w' := by
 have HR0 := Aside0.mk hr0
 have HC0 := Aside0.mk hc0
 clear hr0 hc0
 have HB := Aside0.mk (Below.refl w.heap.size w)
 have H : ((spec_l1In.f (l0.length : Int) 1 8).bind fun t527 => (if t527 = true then (spec_JoinPhases.l0 k l0 (l0.length : Int) 0 l0 (l0.length : Int) 0) else (some (([] : List Int), false)))) = some (r1, r2) := h
 clear h
 replace H := Option.bind_eq_some_iff.mp H
 obtain ⟨t527, A20, H⟩ := H
 (try dsimp only at H)
 have A2 := Aside0.mk A20
 clear A20
 by_cases c3 : t527 = true
 ·subst c3
  rw [if_pos rfl] at H
  have H' := Aside0.mk H
  clear H
  go_enter Try.func24, Try.ntmps24
  go_wp2_with (first | ((with_reducible refine gate_callee (f := 87) rfl ?_); refine goesLS_ (some 14) Try.func87 #[.int .i64 (l0.length : Int), .int .i64 1, .int .i64 8] ?_; (with_reducible refine (spec_l1In.calls (l0.length : Int) 1 8 true _ A2.out).mono ?_); rintro e w' ⟨rfl, ⟨nd, rfl⟩⟩; refine ⟨_, rfl, ?_⟩))
  go_loopg [5, 18] k (fun kq v5 v18 w' => ∃ (x5_1 : Int) (x18_1 : Int), v5 = .int .i64 x5_1 ∧ v18 = .int .i64 x18_1 ∧ Aside0 (spec_JoinPhases.l0 kq l0 (l0.length : Int) x5_1 l0 (l0.length : Int) x18_1 = some (r1, r2)) ∧ Aside0 (kq ≤ k) ∧ Aside0 (Below w.heap.size w w'))
  case atStart => exact ⟨(0), (0), (by first | rfl | (simp; done) | (simp [*]; done)), (by first | rfl | (simp; done) | (simp [*]; done)), H', ⟨Nat.le_refl _⟩, ⟨bl0 HB.out⟩⟩
  case round =>
   clear H'
   try clear c2
   try clear p2
   try clear c3
   obtain ⟨x5_1, x18_1, rfl, rfl, HA, HK1, HB⟩ := hrel
   cases gk with
   | zero => exact absurd HA.out (by simp [spec_JoinPhases.l0])
   | succ k1 =>
    have H := HA.out
    clear HA
    simp only [spec_JoinPhases.l0] at H
    by_cases c4 : x18_1 < (l0.length : Int)
    ·rw [if_pos c4] at H
     have c4b0 : decide (x18_1 < (l0.length : Int)) = true := decide_eq_true c4
     clear c4
     by_cases c5 : 0 ≤ x18_1
     ·rw [if_pos c5] at H
      have c5b0 : decide (0 ≤ x18_1) = true := decide_eq_true c5
      clear c5
      by_cases c6 : x18_1 < (l0.length : Int)
      ·rw [if_pos c6] at H
       have c6b0 : decide (x18_1 < (l0.length : Int)) = true := decide_eq_true c6
       clear c6
       by_cases c7 : ((rd_L2 l0 x18_1).length : Int) > 9
       ·rw [if_pos c7] at H
        have c7b0 : decide (9 < ((rd_L2 l0 x18_1).length : Int)) = true := decide_eq_true c7
        have c7b1 : decide (9 < (rd_L2 l0 x18_1).length) = true := decide_eq_true (by omega)
        clear c7
        simp only [Option.some.injEq, Prod.mk.injEq] at H
        obtain ⟨rfl, rfl⟩ := H
        have p528 : 0 ≤ (x18_1 : Int) := of_decide_eq_true (by first | (with_reducible assumption) | assumption)
        have q528 : x18_1 < (l0.length : Int) := of_decide_eq_true (by first | (with_reducible assumption) | assumption)
        obtain ⟨ad528, A528_0, c528_0, e528, hx528_0, hl528_0, hi528_0⟩ := at_L2 HR0.out x18_1 p528 q528
        cases e528
        (try replace hx528_0 := (HB.out.cell (World.block_lt_of_cell? w _ hx528_0)).trans hx528_0)
        have HR528_0 := Aside0.mk hi528_0
        have HC528_0 := Aside0.mk hl528_0
        clear hi528_0 hl528_0
        replace p528 := eq_true p528
        replace q528 := eq_true q528
        go_wp2
        go_ret2
        exact ⟨_, by first | rfl | (simp [errW_none, errW_some] <;> rfl) | (simp [*, errW_none, errW_some] <;> rfl), by first | exact Kd.R_nil _ _ _ _ _ | exact Kd.N_nil _ _ _ _ _ | exact Kd.V_nil _ _ _ _ _ | exact Kd.Q_nil _ _ _ _ _ | exact Kd.S_nil _ _ _ _ _, bl0 HB.out⟩
       ·rw [if_neg c7] at H
        have c7b0 : decide (9 < ((rd_L2 l0 x18_1).length : Int)) = false := decide_eq_false c7
        have c7l0 := c7b0
        (try simp only [hl528_0] at c7l0)
        have c7b1 : decide (9 < (rd_L2 l0 x18_1).length) = false := decide_eq_false (by omega)
        have c7l1 := c7b1
        (try simp only [hl528_0] at c7l1)
        clear c7
        have H' := Aside0.mk H
        clear H
        have p528 : 0 ≤ (x18_1 : Int) := of_decide_eq_true (by first | (with_reducible assumption) | assumption)
        have q528 : x18_1 < (l0.length : Int) := of_decide_eq_true (by first | (with_reducible assumption) | assumption)
        obtain ⟨ad528, A528_0, c528_0, e528, hx528_0, hl528_0, hi528_0⟩ := at_L2 HR0.out x18_1 p528 q528
        cases e528
        (try replace hx528_0 := (HB.out.cell (World.block_lt_of_cell? w _ hx528_0)).trans hx528_0)
        have HR528_0 := Aside0.mk hi528_0
        have HC528_0 := Aside0.mk hl528_0
        clear hi528_0 hl528_0
        replace p528 := eq_true p528
        replace q528 := eq_true q528
        go_wp2
        go_roundg k1
        case measure => have := HK1.out; omega
        case rel => exact ⟨(wrap64 (x5_1 + ((rd_L2 l0 x18_1).length : Int))), (wrap64 (x18_1 + 1)), (by first | rfl | (simp; done) | (simp [*]; done)), (by first | rfl | (simp; done) | (simp [*]; done)), H', ⟨by have := HK1.out; omega⟩, ⟨bl0 HB.out⟩⟩
      ·rw [if_neg c6] at H
       exact absurd H (by simp)
     ·rw [if_neg c5] at H
      exact absurd H (by simp)
    ·rw [if_neg c4] at H
     have c4b0 : decide (x18_1 < (l0.length : Int)) = false := decide_eq_false c4
     have c4l0 := c4b0
     (try simp only [hl528_0] at c4l0)
     clear c4
     have H' := Aside0.mk H
     clear H
     go_wp2
     go_loopg [8, 9] k1 (fun kq v8 v9 w' => ∃ (x8_2 : List Int) (x9_2 : Int), v9 = .int .i64 x9_2 ∧ Aside0 (spec_JoinPhases.l1 kq l0 (l0.length : Int) x5_1 x8_2 x9_2 = some (r1, r2)) ∧ Aside0 (kq ≤ k1) ∧ Aside0 (Kd.R (Kd.int .i64) 3 w' w.heap.size (fun _ => True) v8 x8_2) ∧ Aside0 (Below w.heap.size w w'))
     case atStart => exact ⟨(([] : List Int)), (0), (by first | rfl | (simp; done) | (simp [*]; done)), H', ⟨Nat.le_refl _⟩, ⟨by first | exact Kd.R_nil _ _ _ _ _ | exact Kd.N_nil _ _ _ _ _ | exact Kd.V_nil _ _ _ _ _ | exact Kd.Q_nil _ _ _ _ _ | exact Kd.S_nil _ _ _ _ _⟩, ⟨bl0 HB.out⟩⟩
     case round =>
      clear H'
      try clear c2
      try clear p2
      try clear c3
      try clear c4
      try clear c4b0
      try clear c5
      try clear c5b0
      try clear p5
      try clear q5
      try clear hx5
      try clear c6
      try clear c6b0
      try clear p6
      try clear c7
      try clear c7b0
      try clear c7b1
      try clear hx528_0
      try clear p2
      try clear p528
      try clear q528
      obtain ⟨x8_2, x9_2, rfl, HA, HK2, HO_8, HB⟩ := hrel
      cases gk with
      | zero => exact absurd HA.out (by simp [spec_JoinPhases.l1])
      | succ k2 =>
       have H := HA.out
       clear HA
       simp only [spec_JoinPhases.l1] at H
       by_cases c8 : x9_2 < x5_1
       ·rw [if_pos c8] at H
        have c8b0 : decide (x9_2 < x5_1) = true := decide_eq_true c8
        clear c8
        by_cases c9 : (l0.length : Int) = 0
        ·rw [if_pos c9] at H
         exact absurd H (by simp)
        ·rw [if_neg c9] at H
         have c9b0 : ((l0.length : Int) == 0) = false := beq_eq_false_iff_ne.mpr c9
         have c9b1 : ((l0.length : Int) != 0) = true := bne_iff_ne.mpr c9
         have c9b2 : ¬ (l0 = []) := fun h_ => c9 (by rw [h_]; rfl)
         obtain ⟨ji10, hji10⟩ : ∃ j_ : Int, (Int.tmod x9_2 (l0.length : Int)) = j_ := ⟨_, rfl⟩
         replace H : (if 0 ≤ (ji10) then (if (ji10) < (l0.length : Int) then (if (wrap64 (Int.tdiv x9_2 (l0.length : Int))) ≥ ((rd_L2 l0 (ji10)).length : Int) then (some (([] : List Int), false)) else (if 0 ≤ (wrap64 (Int.tdiv x9_2 (l0.length : Int))) then (if (wrap64 (Int.tdiv x9_2 (l0.length : Int))) < ((rd_L2 l0 (ji10)).length : Int) then (if x8_2.length < 17592186044416 then (spec_JoinPhases.l1 k2 l0 (l0.length : Int) x5_1 (x8_2 ++ [rd (rd_L2 l0 (ji10)) (wrap64 (Int.tdiv x9_2 (l0.length : Int)))]) (wrap64 (x9_2 + 1))) else (none)) else (none)) else (none))) else (none)) else (none)) = some (r1, r2) := by first | (rw [hji10] at H; exact H) | (simp only [hji10] at H ⊢; exact H)
         by_cases c11 : 0 ≤ (ji10)
         ·rw [if_pos c11] at H
          have c11b0 : decide (0 ≤ (ji10)) = true := decide_eq_true c11
          clear c11
          by_cases c12 : (ji10) < (l0.length : Int)
          ·rw [if_pos c12] at H
           have c12b0 : decide ((ji10) < (l0.length : Int)) = true := decide_eq_true c12
           clear c12
           by_cases c13 : (wrap64 (Int.tdiv x9_2 (l0.length : Int))) ≥ ((rd_L2 l0 (ji10)).length : Int)
           ·rw [if_pos c13] at H
            have c13b0 : decide (((rd_L2 l0 (ji10)).length : Int) ≤ (wrap64 (Int.tdiv x9_2 (l0.length : Int)))) = true := decide_eq_true c13
            clear c13
            simp only [Option.some.injEq, Prod.mk.injEq] at H
            obtain ⟨rfl, rfl⟩ := H
            have p529 : 0 ≤ ((ji10) : Int) := of_decide_eq_true (by first | (with_reducible assumption) | assumption)
            have q529 : (ji10) < (l0.length : Int) := of_decide_eq_true (by first | (with_reducible assumption) | assumption)
            obtain ⟨ad529, A529_0, c529_0, e529, hx529_0, hl529_0, hi529_0⟩ := at_L2 HR0.out (ji10) p529 q529
            cases e529
            (try replace hx529_0 := (HB.out.cell (World.block_lt_of_cell? w _ hx529_0)).trans hx529_0)
            have HR529_0 := Aside0.mk hi529_0
            have HC529_0 := Aside0.mk hl529_0
            clear hi529_0 hl529_0
            replace p529 := eq_true p529
            replace q529 := eq_true q529
            go_wp2
            go_ret2
            exact ⟨_, by first | rfl | (simp [errW_none, errW_some] <;> rfl) | (simp only [← hji10]; first | rfl | (simp [errW_none, errW_some] <;> rfl)) | (simp [*, errW_none, errW_some] <;> rfl), by first | exact Kd.R_nil _ _ _ _ _ | exact Kd.N_nil _ _ _ _ _ | exact Kd.V_nil _ _ _ _ _ | exact Kd.Q_nil _ _ _ _ _ | exact Kd.S_nil _ _ _ _ _, bl0 HB.out⟩
           ·rw [if_neg c13] at H
            have c13b0 : decide (((rd_L2 l0 (ji10)).length : Int) ≤ (wrap64 (Int.tdiv x9_2 (l0.length : Int)))) = false := decide_eq_false c13
            have c13l0 := c13b0
            (try simp only [hl528_0] at c13l0)
            have c13l0 := c13b0
            (try simp only [hl529_0] at c13l0)
            clear c13
            obtain ⟨ji14, hji14⟩ : ∃ j_ : Int, (wrap64 (Int.tdiv x9_2 (l0.length : Int))) = j_ := ⟨_, rfl⟩
            replace H : (if 0 ≤ (ji14) then (if (ji14) < ((rd_L2 l0 (ji10)).length : Int) then (if x8_2.length < 17592186044416 then (spec_JoinPhases.l1 k2 l0 (l0.length : Int) x5_1 (x8_2 ++ [rd (rd_L2 l0 (ji10)) (ji14)]) (wrap64 (x9_2 + 1))) else (none)) else (none)) else (none)) = some (r1, r2) := by first | (rw [hji14] at H; exact H) | (simp only [hji14] at H ⊢; exact H)
            (try rw [hji14] at c13b0)
            have hji14w : (IntKind.i64.wrap (Int.tdiv x9_2 (l0.length : Int))) = ji14 := (i64_w _).trans hji14
            by_cases c15 : 0 ≤ (ji14)
            ·rw [if_pos c15] at H
             have c15b0 : decide (0 ≤ (ji14)) = true := decide_eq_true c15
             clear c15
             by_cases c16 : (ji14) < ((rd_L2 l0 (ji10)).length : Int)
             ·rw [if_pos c16] at H
              have c16b0 : decide ((ji14) < ((rd_L2 l0 (ji10)).length : Int)) = true := decide_eq_true c16
              clear c16
              by_cases c17 : x8_2.length < 17592186044416
              ·rw [if_pos c17] at H
               have LMc17 := Aside0.mk c17
               clear c17
               obtain ⟨y531, hy531⟩ : ∃ y_ : List Int, y_ = (x8_2 ++ [rd (rd_L2 l0 (ji10)) (ji14)]) := ⟨_, rfl⟩
               replace H : (spec_JoinPhases.l1 k2 l0 (l0.length : Int) x5_1 y531 (wrap64 (x9_2 + 1))) = some (r1, r2) := by first | (rw [hy531]; with_reducible exact H) | (have H2_ := (Option.bind_some _ _).symm.trans H; rw [hy531]; with_reducible exact H2_) | (have H2_ := (Option.bind_some _ _).symm.trans H; with_reducible exact H2_) | with_reducible exact H | (rw [hy531]; exact H) | exact H
               have Ny531 := Aside0.mk hy531
               clear hy531
               have H' := Aside0.mk H
               clear H
               have p529 : 0 ≤ ((ji10) : Int) := of_decide_eq_true (by first | (with_reducible assumption) | assumption)
               have q529 : (ji10) < (l0.length : Int) := of_decide_eq_true (by first | (with_reducible assumption) | assumption)
               obtain ⟨ad529, A529_0, c529_0, e529, hx529_0, hl529_0, hi529_0⟩ := at_L2 HR0.out (ji10) p529 q529
               cases e529
               (try replace hx529_0 := (HB.out.cell (World.block_lt_of_cell? w _ hx529_0)).trans hx529_0)
               have HR529_0 := Aside0.mk hi529_0
               have HC529_0 := Aside0.mk hl529_0
               clear hi529_0 hl529_0
               replace p529 := eq_true p529
               replace q529 := eq_true q529
               have p530 : 0 ≤ ((ji14) : Int) := of_decide_eq_true (by first | (with_reducible assumption) | assumption)
               have q530 : (ji14) < ((rd_L2 l0 (ji10)).length : Int) := of_decide_eq_true (by first | (with_reducible assumption) | assumption)
               obtain ⟨ad530, e530, hx530_0⟩ := Kd.at_int HR529_0.out (ji14) p530 q530
               cases e530
               (try replace hx530_0 := (HB.out.cell (World.block_lt_of_cell? w _ hx530_0)).trans hx530_0)
               replace p530 := eq_true p530
               replace q530 := eq_true q530
               go_wp2_with (first | ((with_reducible refine gate_builtin (b := .append) (xs := #[.tmp 47, .tmp 54]) rfl ?_); at_builtin; refine Kd.R_append (Kd.int .i64) (w0 := w) w.heap.size rfl (.tmp 47) (.tmp 54) 24 3 (.int .i64 0) 8 rfl Try.underlying24 info3 rfl (by decide) (by omega) u8 x8_2 (rd (rd_L2 l0 (ji10)) (ji14)) [.int .i64 (rd (rd_L2 l0 (ji10)) (ji14))] (fun _ => True) (fun _ => False) rfl rfl ?aP (fun _ hk => hk.elim) ?aF ?aO ?aB ?aS ?aL ?_; (case aP => exact rfl); (case aB => exact (bl0 HB.out)); (case aF => exact (fun _ _ => trivial)); (case aO => exact (kr HO_8.out)); (case aS => exact (below_size (bl0 HB.out))); (case aL => have := LMc17.out; omega); intro v532 w18 ho hb hg hat; rw [← Ny531.out] at ho; have n0_ := Aside0.mk (hb); have n1_ := Aside0.mk (ho); clear HB; clear HO_8; have HB := n0_; have HO533 := n1_; clear n0_ n1_; clear ho hb hg hat))
               go_roundg k2
               case measure => have := HK1.out; have := HK2.out; omega
               case rel => exact ⟨(y531), (wrap64 (x9_2 + 1)), (by first | rfl | (simp; done) | (simp [*]; done)), H', ⟨by have := HK1.out; have := HK2.out; omega⟩, ⟨kr HO533.out⟩, ⟨bl0 HB.out⟩⟩
              ·rw [if_neg c17] at H
               exact absurd H (by simp)
             ·rw [if_neg c16] at H
              exact absurd H (by simp)
            ·rw [if_neg c15] at H
             exact absurd H (by simp)
          ·rw [if_neg c12] at H
           exact absurd H (by simp)
         ·rw [if_neg c11] at H
          exact absurd H (by simp)
       ·rw [if_neg c8] at H
        have c8b0 : decide (x9_2 < x5_1) = false := decide_eq_false c8
        clear c8
        replace H := Option.bind_eq_some_iff.mp H
        obtain ⟨⟨t534, t537⟩, A190, H⟩ := H
        (try dsimp only at H)
        have A19 := Aside0.mk A190
        clear A190
        simp only [Option.some.injEq, Prod.mk.injEq] at H
        obtain ⟨rfl, rfl⟩ := H
        obtain ⟨Ao20, co20, eo20⟩ := Kd.R_slice HO_8.out
        subst eo20
        go_wp2_with (first | ((with_reducible refine gate_callee (f := 91) rfl ?_); refine goesLS_ (some 57) Try.func91 #[.slice Ao20 x8_2.length co20] ?_; (with_reducible refine (spec_weIf.calls k2 (fun k_ => some k_ = (.slice Ao20 x8_2.length co20 : Value).ownBlock) (.slice Ao20 x8_2.length co20) x8_2 t534 t537 w _ ?side1 ?side2 A19.out).mono ?_); (case side1 => repeat (first | (with_reducible first | exact HB.out | apply below_alloc | apply pw_below_drewN | apply below_drew1) | exact HB.out)); (case side2 => exact Kd.R_tight rfl HO_8.out); rintro e w21 ⟨v535, rfl, ho0, hb, hkp⟩; refine ⟨_, rfl, ?_⟩; have n0_ := Aside0.mk (Kd.R_mono (ok' := fun k_ => True) ho0 (fun k_ hk_ => trivial)); have n1_ := Aside0.mk (hb); clear HB; clear HO_8; have HO536 := n0_; have HB := n1_; clear n0_ n1_; (try clear hb); (try clear hkp); (try clear ho0)))
        go_ret2
        exact ⟨_, by first | rfl | (simp [errW_none, errW_some] <;> rfl) | (simp [*, errW_none, errW_some] <;> rfl), kr HO536.out, bl0 HB.out⟩
 ·replace c3 := Bool.eq_false_iff.mpr c3
  subst c3
  rw [if_neg (show ¬ (false = true) by decide)] at H
  simp only [Option.some.injEq, Prod.mk.injEq] at H
  obtain ⟨rfl, rfl⟩ := H
  go_enter Try.func24, Try.ntmps24
  go_wp2_with (first | ((with_reducible refine gate_callee (f := 87) rfl ?_); refine goesLS_ (some 14) Try.func87 #[.int .i64 (l0.length : Int), .int .i64 1, .int .i64 8] ?_; (with_reducible refine (spec_l1In.calls (l0.length : Int) 1 8 false _ A2.out).mono ?_); rintro e w' ⟨rfl, ⟨nd, rfl⟩⟩; refine ⟨_, rfl, ?_⟩))
  go_ret2
  exact ⟨_, by first | rfl | (simp [errW_none, errW_some] <;> rfl) | (simp [*, errW_none, errW_some] <;> rfl), by first | exact Kd.R_nil _ _ _ _ _ | exact Kd.N_nil _ _ _ _ _ | exact Kd.V_nil _ _ _ _ _ | exact Kd.Q_nil _ _ _ _ _ | exact Kd.S_nil _ _ _ _ _, bl0 HB.out⟩

end Go.Proofs.Ytloedgmalnjckaa.PFnPhasesWork
