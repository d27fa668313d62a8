-- printed by a program of this claim's own
import Derived.Test.YtjbpflfihdabhaaPFnRatesChangedx0
import Derived.Test.YtjbpflfihdabhaaPFnRatesChangedx2
namespace Go.Proofs.Ytjbpflfihdabhaa.PFnRatesChanged
open Go.RowKit Go.Proofs.YtjbpflfihdabhaaW.PrintWords Go.Proofs.YtjbpflfihdabhaaW.PrintLast Go.Proofs.YtjbpflfihdabhaaW.PrintMore Go.Proofs.Ytjbpflfihdabhaa.Cuts
attribute [local go_sem] max2_int min2_int max_two min_two max_three min_three max_four min_four   -- for this text's walks alone
set_option linter.unusedVariables false
set_option linter.unusedSimpArgs false

/-! ### spec_NearSamples: function 11 -/
def spec_NearSamples.l0 : Nat → List Int → Int → Int → List Int → Int → Option (List Int × Bool)
 | 0, _, _, _, _, _ => none
 | k + 1, x0, x1, x2, x8, x9 => (spec_rsLength.f (x0.length : Int) x1 x2).bind fun t215 => (if x9 < t215 then (if x1 = 0 then (none) else (if (wrap64 (2 * (Int.tmod (wrap64 (x9 * x2)) x1))) ≥ x1 then (if (wrap64 ((wrap64 (Int.tdiv (wrap64 (x9 * x2)) x1)) + 1)) < (x0.length : Int) then (if 0 ≤ (wrap64 ((wrap64 (Int.tdiv (wrap64 (x9 * x2)) x1)) + 1)) then (if x8.length < 17592186044416 then (spec_NearSamples.l0 k x0 x1 x2 (x8 ++ [rd x0 (wrap64 ((wrap64 (Int.tdiv (wrap64 (x9 * x2)) x1)) + 1))]) (wrap64 (x9 + 1))) else (none)) else (none)) else (if 0 ≤ (wrap64 (Int.tdiv (wrap64 (x9 * x2)) x1)) then (if (wrap64 (Int.tdiv (wrap64 (x9 * x2)) x1)) < (x0.length : Int) then (if x8.length < 17592186044416 then (spec_NearSamples.l0 k x0 x1 x2 (x8 ++ [rd x0 (wrap64 (Int.tdiv (wrap64 (x9 * x2)) x1))]) (wrap64 (x9 + 1))) else (none)) else (none)) else (none))) else (if 0 ≤ (wrap64 (Int.tdiv (wrap64 (x9 * x2)) x1)) then (if (wrap64 (Int.tdiv (wrap64 (x9 * x2)) x1)) < (x0.length : Int) then (if x8.length < 17592186044416 then (spec_NearSamples.l0 k x0 x1 x2 (x8 ++ [rd x0 (wrap64 (Int.tdiv (wrap64 (x9 * x2)) x1))]) (wrap64 (x9 + 1))) else (none)) else (none)) else (none)))) else ((spec_wdIf.f k x8).bind fun bt228 => (some (bt228.1, bt228.2))))
def spec_NearSamples.f (k : Nat) (l0 : List Int) (a1 : Int) (a2 : Int) : Option (List Int × Bool) := (spec_rsGood.f k l0 a1 a2).bind fun t214 => (if t214 = true then (spec_NearSamples.l0 k l0 a1 a2 ([] : List Int) 0) else (some (([] : List Int), false)))

set_option maxHeartbeats 8000000 in
set_option maxRecDepth 100000 in
theorem spec_NearSamples.calls (k : Nat) (A0 : Option Addr) (c0 : Nat) (l0 : List Int) (a1 : Int) (a2 : Int) (r1 : List Int) (r2 : Bool) (w : World) (hr0 : Kd.C (Kd.int .i64) w A0 l0.length l0) (hc0 : l0.length ≤ c0) (h : spec_NearSamples.f k l0 a1 a2 = some (r1, r2)) :
  Calls Try.prog 11 #[.slice A0 l0.length c0, .int .i64 a1, .int .i64 a2] w fun e w' => ∃ v0_ : Value, e = .returned (.tuple #[v0_, .bool r2]) ∧ Kd.R (Kd.int .i64) 3 w' w.heap.size (fun _ => True) v0_ r1 ∧ Below w.heap.size w w' := by
 have HR0 := Aside0.mk hr0
 have HC0 := Aside0.mk hc0
 clear hr0 hc0
 have HB := Aside0.mk (Below.refl w.heap.size w)
 have H : ((spec_rsGood.f k l0 a1 a2).bind fun t214 => (if t214 = true then (spec_NearSamples.l0 k l0 a1 a2 ([] : List Int) 0) else (some (([] : List Int), false)))) = some (r1, r2) := h
 clear h
 replace H := Option.bind_eq_some_iff.mp H
 obtain ⟨t214, A40, H⟩ := H
 replace H : (if t214 = true then (spec_NearSamples.l0 k l0 a1 a2 ([] : List Int) 0) else (some (([] : List Int), false))) = some (r1, r2) := H
 have A4 := Aside0.mk A40
 clear A40
 by_cases c5 : t214 = true
 ·subst c5
  have H1 : (spec_NearSamples.l0 k l0 a1 a2 ([] : List Int) 0) = some (r1, r2) := by rw [if_pos rfl] at H; exact H
  clear H
  have H := H1
  clear H1
  have H' := Aside0.mk H
  clear H
  go_enter Try.func11, Try.ntmps11
  go_wp2_with (first | ((with_reducible refine gate_callee (f := 53) rfl ?_); refine goesL_ (some 14) rfl rfl Try.func53 (by kernel_rfl) rfl #[.slice A0 l0.length c0, .int .i64 a1, .int .i64 a2] rfl (by (try simp only [List.map_toArray, List.map_cons, List.map_nil]); first | done | rfl | (simp only [List.length_drop, List.length_take]; rfl)) ?_; (with_reducible refine (spec_rsGood.calls k _ _ l0 a1 a2 true _ ?side1 ?side2 A4.out).mono ?_); (case side1 => repeat (first | exact HR0.out | (with_reducible refine Kd.C_alloc ?_ _) | (with_reducible refine Kd.C_drewN ?_ _) | (with_reducible refine Kd.C_drew ?_))); (case side2 => exact HC0.out); rintro e w' ⟨rfl, ⟨nd, rfl⟩⟩; refine ⟨_, rfl, ?_⟩))
  go_loopg [8, 9] k (fun kq v8 v9 w' => ∃ (x8_1 : List Int) (x9_1 : Int), v9 = .int .i64 x9_1 ∧ Aside0 (spec_NearSamples.l0 kq l0 a1 a2 x8_1 x9_1 = some (r1, r2)) ∧ Aside0 (kq ≤ k) ∧ Aside0 (Kd.R (Kd.int .i64) 3 w' w.heap.size (fun _ => True) v8 x8_1) ∧ Aside0 (Below w.heap.size w w'))
  case atStart => exact ⟨(([] : List Int)), (0), (by first | rfl | (simp; done) | (simp [*]; done)), H', ⟨Nat.le_refl _⟩, ⟨by first | exact Kd.R_nil _ _ _ _ _ | exact Kd.N_nil _ _ _ _ _ | exact Kd.V_nil _ _ _ _ _ | exact Kd.Q_nil _ _ _ _ _ | exact Kd.S_nil _ _ _ _ _⟩, ⟨by repeat (first | (with_reducible first | exact HB.out | apply below_alloc | apply pw_below_drewN | apply below_drew1) | exact HB.out)⟩⟩
  case round =>
   clear H'
   try clear c1
   try clear p2
   try clear c5
   obtain ⟨x8_1, x9_1, rfl, HA, HK1, HO_8, HB⟩ := hrel
   cases gk with
   | zero => exact absurd HA.out (by simp [spec_NearSamples.l0])
   | succ k1 =>
    have H := HA.out
    clear HA
    simp only [spec_NearSamples.l0] at H
    replace H := Option.bind_eq_some_iff.mp H
    obtain ⟨t215, A60, H⟩ := H
    replace H : (if x9_1 < t215 then (if a1 = 0 then (none) else (if (wrap64 (2 * (Int.tmod (wrap64 (x9_1 * a2)) a1))) ≥ a1 then (if (wrap64 ((wrap64 (Int.tdiv (wrap64 (x9_1 * a2)) a1)) + 1)) < (l0.length : Int) then (if 0 ≤ (wrap64 ((wrap64 (Int.tdiv (wrap64 (x9_1 * a2)) a1)) + 1)) then (if x8_1.length < 17592186044416 then (spec_NearSamples.l0 k1 l0 a1 a2 (x8_1 ++ [rd l0 (wrap64 ((wrap64 (Int.tdiv (wrap64 (x9_1 * a2)) a1)) + 1))]) (wrap64 (x9_1 + 1))) else (none)) else (none)) else (if 0 ≤ (wrap64 (Int.tdiv (wrap64 (x9_1 * a2)) a1)) then (if (wrap64 (Int.tdiv (wrap64 (x9_1 * a2)) a1)) < (l0.length : Int) then (if x8_1.length < 17592186044416 then (spec_NearSamples.l0 k1 l0 a1 a2 (x8_1 ++ [rd l0 (wrap64 (Int.tdiv (wrap64 (x9_1 * a2)) a1))]) (wrap64 (x9_1 + 1))) else (none)) else (none)) else (none))) else (if 0 ≤ (wrap64 (Int.tdiv (wrap64 (x9_1 * a2)) a1)) then (if (wrap64 (Int.tdiv (wrap64 (x9_1 * a2)) a1)) < (l0.length : Int) then (if x8_1.length < 17592186044416 then (spec_NearSamples.l0 k1 l0 a1 a2 (x8_1 ++ [rd l0 (wrap64 (Int.tdiv (wrap64 (x9_1 * a2)) a1))]) (wrap64 (x9_1 + 1))) else (none)) else (none)) else (none)))) else ((spec_wdIf.f k1 x8_1).bind fun bt228 => (some (bt228.1, bt228.2)))) = some (r1, r2) := H
    have A6 := Aside0.mk A60
    clear A60
    by_cases c7 : x9_1 < t215
    ·rw [if_pos c7] at H
     have c7b0 : decide (x9_1 < t215) = true := decide_eq_true c7
     clear c7
     by_cases c8 : a1 = 0
     ·rw [if_pos c8] at H
      exact absurd H (by simp)
     ·rw [if_neg c8] at H
      have c8b0 : (a1 == 0) = false := beq_eq_false_iff_ne.mpr c8
      have c8b1 : (a1 != 0) = true := bne_iff_ne.mpr c8
      by_cases c9 : (wrap64 (2 * (Int.tmod (wrap64 (x9_1 * a2)) a1))) ≥ a1
      ·rw [if_pos c9] at H
       have c9b0 : decide (a1 ≤ (wrap64 (2 * (Int.tmod (wrap64 (x9_1 * a2)) a1)))) = true := decide_eq_true c9
       clear c9
       by_cases c10 : (wrap64 ((wrap64 (Int.tdiv (wrap64 (x9_1 * a2)) a1)) + 1)) < (l0.length : Int)
       ·rw [if_pos c10] at H
        have c10b0 : decide ((wrap64 ((wrap64 (Int.tdiv (wrap64 (x9_1 * a2)) a1)) + 1)) < (l0.length : Int)) = true := decide_eq_true c10
        clear c10
        obtain ⟨ji11, hji11⟩ : ∃ j_ : Int, (wrap64 ((wrap64 (Int.tdiv (wrap64 (x9_1 * a2)) a1)) + 1)) = j_ := ⟨_, rfl⟩
        replace H : (if 0 ≤ (ji11) then (if x8_1.length < 17592186044416 then (spec_NearSamples.l0 k1 l0 a1 a2 (x8_1 ++ [rd l0 (ji11)]) (wrap64 (x9_1 + 1))) else (none)) else (none)) = some (r1, r2) := by first | (rw [hji11] at H; exact H) | (simp only [hji11] at H ⊢; exact H)
        (try rw [hji11] at c10b0)
        (try rw [hji11] at A6)
        have hji11w : (IntKind.i64.wrap ((wrap64 (Int.tdiv (wrap64 (x9_1 * a2)) a1)) + 1)) = ji11 := (i64_w _).trans hji11
        by_cases c12 : 0 ≤ (ji11)
        ·rw [if_pos c12] at H
         have c12b0 : decide (0 ≤ (ji11)) = true := decide_eq_true c12
         clear c12
         by_cases c13 : x8_1.length < 17592186044416
         ·rw [if_pos c13] at H
          have LMc13 := Aside0.mk c13
          clear c13
          obtain ⟨y217, hy217⟩ : ∃ y_ : List Int, y_ = (x8_1 ++ [rd l0 (ji11)]) := ⟨_, rfl⟩
          replace H : (spec_NearSamples.l0 k1 l0 a1 a2 y217 (wrap64 (x9_1 + 1))) = some (r1, r2) := by first | (rw [hy217]; with_reducible exact H) | (have H2_ := (Option.bind_some _ _).symm.trans H; rw [hy217]; with_reducible exact H2_) | (have H2_ := (Option.bind_some _ _).symm.trans H; with_reducible exact H2_) | with_reducible exact H | (rw [hy217]; exact H) | exact H
          have Ny217 := Aside0.mk hy217
          clear hy217
          have H' := Aside0.mk H
          clear H
          go_wp2_with (first | ((with_reducible refine gate_callee (f := 54) rfl ?_); refine goesL_ (some 21) rfl rfl Try.func54 (by kernel_rfl) rfl #[.int .i64 (l0.length : Int), .int .i64 a1, .int .i64 a2] rfl (by (try simp only [List.map_toArray, List.map_cons, List.map_nil]); first | done | rfl | (simp only [List.length_drop, List.length_take]; rfl)) ?_; (with_reducible refine (spec_rsLength.calls (l0.length : Int) a1 a2 t215 _ A6.out).mono ?_); rintro e w' ⟨rfl, ⟨nd, rfl⟩⟩; refine ⟨_, rfl, ?_⟩; have p216 : 0 ≤ ((ji11) : Int) := of_decide_eq_true (by first | (with_reducible assumption) | assumption); have q216 : (ji11) < (l0.length : Int) := of_decide_eq_true (by first | (with_reducible assumption) | assumption); obtain ⟨ad216, e216, hx216_0⟩ := Kd.at_int HR0.out (ji11) p216 q216; cases e216; replace hx216_0 := (HB.out.cell (World.block_lt_of_cell? w _ hx216_0)).trans hx216_0; replace p216 := eq_true p216; replace q216 := eq_true q216) | ((with_reducible refine gate_builtin (b := .append) (xs := #[.tmp 47, .tmp 52]) rfl ?_); (try (refine gate_guard (by rfl) ?_; dsimp only)); at_builtin; refine Kd.R_append (Kd.int .i64) (w0 := w) w.heap.size rfl (.tmp 47) (.tmp 52) 24 3 (.int .i64 0) 8 rfl Try.underlying24 info3 rfl (by decide) (by omega) u8 x8_1 (rd l0 (ji11)) [.int .i64 (rd l0 (ji11))] (fun _ => True) (fun _ => False) rfl rfl ?aP (fun _ hk => hk.elim) ?aF ?aO ?aB ?aS ?aL ?_; (case aP => exact rfl); (case aB => exact (by repeat (first | (with_reducible first | exact HB.out | apply below_alloc | apply pw_below_drewN | apply below_drew1) | exact HB.out))); (case aF => exact (fun _ _ => trivial)); (case aO => exact (by (with_reducible repeat (first | apply Kd.R_alloc | apply Kd.R_drewN | apply Kd.R_drew)); exact HO_8.out)); (case aS => exact (below_size (by repeat (first | (with_reducible first | exact HB.out | apply below_alloc | apply pw_below_drewN | apply below_drew1) | exact HB.out)))); (case aL => have := LMc13.out; omega); intro v218 w14 ho hb hg hat; rw [← Ny217.out] at ho; have n0_ := Aside0.mk (hb); have n1_ := Aside0.mk (ho); clear HB; clear HO_8; have HB := n0_; have HO219 := n1_; clear n0_ n1_; clear ho hb hg hat))
          go_roundg k1
          case measure => have := HK1.out; omega
          case rel => exact ⟨(y217), (wrap64 (x9_1 + 1)), (by first | rfl | (simp; done) | (simp [*]; done)), H', ⟨by have := HK1.out; omega⟩, ⟨by (with_reducible repeat (first | apply Kd.R_alloc | apply Kd.R_drewN | apply Kd.R_drew)); exact HO219.out⟩, ⟨by repeat (first | (with_reducible first | exact HB.out | apply below_alloc | apply pw_below_drewN | apply below_drew1) | exact HB.out)⟩⟩
         ·rw [if_neg c13] at H
          exact absurd H (by simp)
        ·rw [if_neg c12] at H
         exact absurd H (by simp)
       ·rw [if_neg c10] at H
        have c10b0 : decide ((wrap64 ((wrap64 (Int.tdiv (wrap64 (x9_1 * a2)) a1)) + 1)) < (l0.length : Int)) = false := decide_eq_false c10
        clear c10
        obtain ⟨ji15, hji15⟩ : ∃ j_ : Int, (wrap64 (Int.tdiv (wrap64 (x9_1 * a2)) a1)) = j_ := ⟨_, rfl⟩
        replace H : (if 0 ≤ (ji15) then (if (ji15) < (l0.length : Int) then (if x8_1.length < 17592186044416 then (spec_NearSamples.l0 k1 l0 a1 a2 (x8_1 ++ [rd l0 (ji15)]) (wrap64 (x9_1 + 1))) else (none)) else (none)) else (none)) = some (r1, r2) := by first | (rw [hji15] at H; exact H) | (simp only [hji15] at H ⊢; exact H)
        (try rw [hji15] at c10b0)
        (try rw [hji15] at A6)
        have hji15w : (IntKind.i64.wrap (Int.tdiv (wrap64 (x9_1 * a2)) a1)) = ji15 := (i64_w _).trans hji15
        by_cases c16 : 0 ≤ (ji15)
        ·rw [if_pos c16] at H
         have c16b0 : decide (0 ≤ (ji15)) = true := decide_eq_true c16
         clear c16
         by_cases c17 : (ji15) < (l0.length : Int)
         ·rw [if_pos c17] at H
          have c17b0 : decide ((ji15) < (l0.length : Int)) = true := decide_eq_true c17
          clear c17
          by_cases c18 : x8_1.length < 17592186044416
          ·rw [if_pos c18] at H
           have LMc18 := Aside0.mk c18
           clear c18
           obtain ⟨y221, hy221⟩ : ∃ y_ : List Int, y_ = (x8_1 ++ [rd l0 (ji15)]) := ⟨_, rfl⟩
           replace H : (spec_NearSamples.l0 k1 l0 a1 a2 y221 (wrap64 (x9_1 + 1))) = some (r1, r2) := by first | (rw [hy221]; with_reducible exact H) | (have H2_ := (Option.bind_some _ _).symm.trans H; rw [hy221]; with_reducible exact H2_) | (have H2_ := (Option.bind_some _ _).symm.trans H; with_reducible exact H2_) | with_reducible exact H | (rw [hy221]; exact H) | exact H
           have Ny221 := Aside0.mk hy221
           clear hy221
           have H' := Aside0.mk H
           clear H
           go_wp2_with (first | ((with_reducible refine gate_callee (f := 54) rfl ?_); refine goesL_ (some 21) rfl rfl Try.func54 (by kernel_rfl) rfl #[.int .i64 (l0.length : Int), .int .i64 a1, .int .i64 a2] rfl (by (try simp only [List.map_toArray, List.map_cons, List.map_nil]); first | done | rfl | (simp only [List.length_drop, List.length_take]; rfl)) ?_; (with_reducible refine (spec_rsLength.calls (l0.length : Int) a1 a2 t215 _ A6.out).mono ?_); rintro e w' ⟨rfl, ⟨nd, rfl⟩⟩; refine ⟨_, rfl, ?_⟩; have p220 : 0 ≤ ((ji15) : Int) := of_decide_eq_true (by first | (with_reducible assumption) | assumption); have q220 : (ji15) < (l0.length : Int) := of_decide_eq_true (by first | (with_reducible assumption) | assumption); obtain ⟨ad220, e220, hx220_0⟩ := Kd.at_int HR0.out (ji15) p220 q220; cases e220; replace hx220_0 := (HB.out.cell (World.block_lt_of_cell? w _ hx220_0)).trans hx220_0; replace p220 := eq_true p220; replace q220 := eq_true q220) | ((with_reducible refine gate_builtin (b := .append) (xs := #[.tmp 47, .tmp 52]) rfl ?_); (try (refine gate_guard (by rfl) ?_; dsimp only)); at_builtin; refine Kd.R_append (Kd.int .i64) (w0 := w) w.heap.size rfl (.tmp 47) (.tmp 52) 24 3 (.int .i64 0) 8 rfl Try.underlying24 info3 rfl (by decide) (by omega) u8 x8_1 (rd l0 (ji15)) [.int .i64 (rd l0 (ji15))] (fun _ => True) (fun _ => False) rfl rfl ?aP (fun _ hk => hk.elim) ?aF ?aO ?aB ?aS ?aL ?_; (case aP => exact rfl); (case aB => exact (by repeat (first | (with_reducible first | exact HB.out | apply below_alloc | apply pw_below_drewN | apply below_drew1) | exact HB.out))); (case aF => exact (fun _ _ => trivial)); (case aO => exact (by (with_reducible repeat (first | apply Kd.R_alloc | apply Kd.R_drewN | apply Kd.R_drew)); exact HO_8.out)); (case aS => exact (below_size (by repeat (first | (with_reducible first | exact HB.out | apply below_alloc | apply pw_below_drewN | apply below_drew1) | exact HB.out)))); (case aL => have := LMc18.out; omega); intro v222 w19 ho hb hg hat; rw [← Ny221.out] at ho; have n0_ := Aside0.mk (hb); have n1_ := Aside0.mk (ho); clear HB; clear HO_8; have HB := n0_; have HO223 := n1_; clear n0_ n1_; clear ho hb hg hat))
           go_roundg k1
           case measure => have := HK1.out; omega
           case rel => exact ⟨(y221), (wrap64 (x9_1 + 1)), (by first | rfl | (simp; done) | (simp [*]; done)), H', ⟨by have := HK1.out; omega⟩, ⟨by (with_reducible repeat (first | apply Kd.R_alloc | apply Kd.R_drewN | apply Kd.R_drew)); exact HO223.out⟩, ⟨by repeat (first | (with_reducible first | exact HB.out | apply below_alloc | apply pw_below_drewN | apply below_drew1) | exact HB.out)⟩⟩
          ·rw [if_neg c18] at H
           exact absurd H (by simp)
         ·rw [if_neg c17] at H
          exact absurd H (by simp)
        ·rw [if_neg c16] at H
         exact absurd H (by simp)
      ·rw [if_neg c9] at H
       have c9b0 : decide (a1 ≤ (wrap64 (2 * (Int.tmod (wrap64 (x9_1 * a2)) a1)))) = false := decide_eq_false c9
       clear c9
       obtain ⟨ji20, hji20⟩ : ∃ j_ : Int, (wrap64 (Int.tdiv (wrap64 (x9_1 * a2)) a1)) = j_ := ⟨_, rfl⟩
       replace H : (if 0 ≤ (ji20) then (if (ji20) < (l0.length : Int) then (if x8_1.length < 17592186044416 then (spec_NearSamples.l0 k1 l0 a1 a2 (x8_1 ++ [rd l0 (ji20)]) (wrap64 (x9_1 + 1))) else (none)) else (none)) else (none)) = some (r1, r2) := by first | (rw [hji20] at H; exact H) | (simp only [hji20] at H ⊢; exact H)
       (try rw [hji20] at A6)
       have hji20w : (IntKind.i64.wrap (Int.tdiv (wrap64 (x9_1 * a2)) a1)) = ji20 := (i64_w _).trans hji20
       by_cases c21 : 0 ≤ (ji20)
       ·rw [if_pos c21] at H
        have c21b0 : decide (0 ≤ (ji20)) = true := decide_eq_true c21
        clear c21
        by_cases c22 : (ji20) < (l0.length : Int)
        ·rw [if_pos c22] at H
         have c22b0 : decide ((ji20) < (l0.length : Int)) = true := decide_eq_true c22
         clear c22
         by_cases c23 : x8_1.length < 17592186044416
         ·rw [if_pos c23] at H
          have LMc23 := Aside0.mk c23
          clear c23
          obtain ⟨y225, hy225⟩ : ∃ y_ : List Int, y_ = (x8_1 ++ [rd l0 (ji20)]) := ⟨_, rfl⟩
          replace H : (spec_NearSamples.l0 k1 l0 a1 a2 y225 (wrap64 (x9_1 + 1))) = some (r1, r2) := by first | (rw [hy225]; with_reducible exact H) | (have H2_ := (Option.bind_some _ _).symm.trans H; rw [hy225]; with_reducible exact H2_) | (have H2_ := (Option.bind_some _ _).symm.trans H; with_reducible exact H2_) | with_reducible exact H | (rw [hy225]; exact H) | exact H
          have Ny225 := Aside0.mk hy225
          clear hy225
          have H' := Aside0.mk H
          clear H
          go_wp2_with (first | ((with_reducible refine gate_callee (f := 54) rfl ?_); refine goesL_ (some 21) rfl rfl Try.func54 (by kernel_rfl) rfl #[.int .i64 (l0.length : Int), .int .i64 a1, .int .i64 a2] rfl (by (try simp only [List.map_toArray, List.map_cons, List.map_nil]); first | done | rfl | (simp only [List.length_drop, List.length_take]; rfl)) ?_; (with_reducible refine (spec_rsLength.calls (l0.length : Int) a1 a2 t215 _ A6.out).mono ?_); rintro e w' ⟨rfl, ⟨nd, rfl⟩⟩; refine ⟨_, rfl, ?_⟩; have p224 : 0 ≤ ((ji20) : Int) := of_decide_eq_true (by first | (with_reducible assumption) | assumption); have q224 : (ji20) < (l0.length : Int) := of_decide_eq_true (by first | (with_reducible assumption) | assumption); obtain ⟨ad224, e224, hx224_0⟩ := Kd.at_int HR0.out (ji20) p224 q224; cases e224; replace hx224_0 := (HB.out.cell (World.block_lt_of_cell? w _ hx224_0)).trans hx224_0; replace p224 := eq_true p224; replace q224 := eq_true q224) | ((with_reducible refine gate_builtin (b := .append) (xs := #[.tmp 47, .tmp 52]) rfl ?_); (try (refine gate_guard (by rfl) ?_; dsimp only)); at_builtin; refine Kd.R_append (Kd.int .i64) (w0 := w) w.heap.size rfl (.tmp 47) (.tmp 52) 24 3 (.int .i64 0) 8 rfl Try.underlying24 info3 rfl (by decide) (by omega) u8 x8_1 (rd l0 (ji20)) [.int .i64 (rd l0 (ji20))] (fun _ => True) (fun _ => False) rfl rfl ?aP (fun _ hk => hk.elim) ?aF ?aO ?aB ?aS ?aL ?_; (case aP => exact rfl); (case aB => exact (by repeat (first | (with_reducible first | exact HB.out | apply below_alloc | apply pw_below_drewN | apply below_drew1) | exact HB.out))); (case aF => exact (fun _ _ => trivial)); (case aO => exact (by (with_reducible repeat (first | apply Kd.R_alloc | apply Kd.R_drewN | apply Kd.R_drew)); exact HO_8.out)); (case aS => exact (below_size (by repeat (first | (with_reducible first | exact HB.out | apply below_alloc | apply pw_below_drewN | apply below_drew1) | exact HB.out)))); (case aL => have := LMc23.out; omega); intro v226 w24 ho hb hg hat; rw [← Ny225.out] at ho; have n0_ := Aside0.mk (hb); have n1_ := Aside0.mk (ho); clear HB; clear HO_8; have HB := n0_; have HO227 := n1_; clear n0_ n1_; clear ho hb hg hat))
          go_roundg k1
          case measure => have := HK1.out; omega
          case rel => exact ⟨(y225), (wrap64 (x9_1 + 1)), (by first | rfl | (simp; done) | (simp [*]; done)), H', ⟨by have := HK1.out; omega⟩, ⟨by (with_reducible repeat (first | apply Kd.R_alloc | apply Kd.R_drewN | apply Kd.R_drew)); exact HO227.out⟩, ⟨by repeat (first | (with_reducible first | exact HB.out | apply below_alloc | apply pw_below_drewN | apply below_drew1) | exact HB.out)⟩⟩
         ·rw [if_neg c23] at H
          exact absurd H (by simp)
        ·rw [if_neg c22] at H
         exact absurd H (by simp)
       ·rw [if_neg c21] at H
        exact absurd H (by simp)
    ·rw [if_neg c7] at H
     have c7b0 : decide (x9_1 < t215) = false := decide_eq_false c7
     clear c7
     replace H := Option.bind_eq_some_iff.mp H
     obtain ⟨⟨t228, t231⟩, A250, H⟩ := H
     replace H : (some (t228, t231)) = some (r1, r2) := H
     have A25 := Aside0.mk A250
     clear A250
     simp only [Option.some.injEq, Prod.mk.injEq] at H
     obtain ⟨rfl, rfl⟩ := H
     go_wp2_with (first | ((with_reducible refine gate_callee (f := 54) rfl ?_); refine goesL_ (some 21) rfl rfl Try.func54 (by kernel_rfl) rfl #[.int .i64 (l0.length : Int), .int .i64 a1, .int .i64 a2] rfl (by (try simp only [List.map_toArray, List.map_cons, List.map_nil]); first | done | rfl | (simp only [List.length_drop, List.length_take]; rfl)) ?_; (with_reducible refine (spec_rsLength.calls (l0.length : Int) a1 a2 t215 _ A6.out).mono ?_); rintro e w' ⟨rfl, ⟨nd, rfl⟩⟩; refine ⟨_, rfl, ?_⟩; obtain ⟨Ao26, co26, eo26⟩ := Kd.R_slice HO_8.out; subst eo26) | ((with_reducible refine gate_callee (f := 55) rfl ?_); refine goesL_ (some 55) rfl rfl Try.func55 (by kernel_rfl) rfl #[.slice Ao26 x8_1.length co26] rfl (by (try simp only [List.map_toArray, List.map_cons, List.map_nil]); first | done | rfl | (simp only [List.length_drop, List.length_take]; rfl)) ?_; (with_reducible refine (spec_wdIf.calls k1 (fun k_ => some k_ = (.slice Ao26 x8_1.length co26 : Value).ownBlock) (.slice Ao26 x8_1.length co26) x8_1 t228 t231 w _ ?side1 ?side2 A25.out).mono ?_); (case side1 => repeat (first | (with_reducible first | exact HB.out | apply below_alloc | apply pw_below_drewN | apply below_drew1) | exact HB.out)); (case side2 => exact Kd.R_tight rfl HO_8.out); rintro e w27 ⟨v229, rfl, ho0, hb, hkp⟩; refine ⟨_, rfl, ?_⟩; have n0_ := Aside0.mk (Kd.R_mono (ok' := fun k_ => True) ho0 (fun k_ hk_ => trivial)); have n1_ := Aside0.mk (hb); clear HB; clear HO_8; have HO230 := n0_; have HB := n1_; clear n0_ n1_; (try clear hb); (try clear hkp); (try clear ho0)))
     go_ret2
     exact ⟨_, by first | rfl | (simp [errW_none, errW_some] <;> rfl) | (simp [*, errW_none, errW_some] <;> rfl), by (with_reducible repeat (first | apply Kd.R_alloc | apply Kd.R_drewN | apply Kd.R_drew)); exact HO230.out, by repeat (first | (with_reducible first | exact HB.out | apply below_alloc | apply pw_below_drewN | apply below_drew1) | exact HB.out)⟩
 ·replace c5 := Bool.eq_false_iff.mpr c5
  subst c5
  have H1 : (some (([] : List Int), false)) = some (r1, r2) := by rw [if_neg (show ¬ (false = true) by decide)] at H; exact H
  clear H
  have H := H1
  clear H1
  simp only [Option.some.injEq, Prod.mk.injEq] at H
  obtain ⟨rfl, rfl⟩ := H
  go_enter Try.func11, Try.ntmps11
  go_wp2_with (first | ((with_reducible refine gate_callee (f := 53) rfl ?_); refine goesL_ (some 14) rfl rfl Try.func53 (by kernel_rfl) rfl #[.slice A0 l0.length c0, .int .i64 a1, .int .i64 a2] rfl (by (try simp only [List.map_toArray, List.map_cons, List.map_nil]); first | done | rfl | (simp only [List.length_drop, List.length_take]; rfl)) ?_; (with_reducible refine (spec_rsGood.calls k _ _ l0 a1 a2 false _ ?side1 ?side2 A4.out).mono ?_); (case side1 => repeat (first | exact HR0.out | (with_reducible refine Kd.C_alloc ?_ _) | (with_reducible refine Kd.C_drewN ?_ _) | (with_reducible refine Kd.C_drew ?_))); (case side2 => exact HC0.out); rintro e w' ⟨rfl, ⟨nd, rfl⟩⟩; refine ⟨_, rfl, ?_⟩))
  go_ret2
  exact ⟨_, by first | rfl | (simp [errW_none, errW_some] <;> rfl) | (simp [*, errW_none, errW_some] <;> rfl), by first | exact Kd.R_nil _ _ _ _ _ | exact Kd.N_nil _ _ _ _ _ | exact Kd.V_nil _ _ _ _ _ | exact Kd.Q_nil _ _ _ _ _ | exact Kd.S_nil _ _ _ _ _, by repeat (first | (with_reducible first | exact HB.out | apply below_alloc | apply pw_below_drewN | apply below_drew1) | exact HB.out)⟩

/-! ### impl_LineSamples: function 12 -/
def lineF (p : Int) (l0 : List Int) (x y : Int) : Option Int := (atF l0 (mn (wrap64 (x + 1)) ((l0.length : Int) - 1))).bind fun n => (atF l0 x).bind fun a => some (wrap64 (wrap64 (p * a) + wrap64 (y * wrap64 (n - a))))
set_option maxHeartbeats 4000000 in
theorem line_lit (A0 : Option Addr) (c0 : Nat) (l0 : List Int) (p : Int) (b b2 : Nat) (W : World) (hc : W.cell? ⟨b, 0, none⟩ = some (.slice A0 l0.length c0)) (hc2 : W.cell? ⟨b2, 0, none⟩ = some (.int .i64 p)) (hr : Kd.C (Kd.int .i64) W A0 l0.length l0) (x y r : Int) (h : lineF p l0 x y = some r) :
    Calls Try.prog 57 #[.int .i64 x, .int .i64 y, .pointer (some ⟨b, 0, none⟩), .pointer (some ⟨b2, 0, none⟩)] W fun e w' => e = .returned (.int .i64 r) ∧ Drawn0 W w' := by
  have hbig := hr.2.1
  unfold lineF at h
  obtain ⟨n, h1, h⟩ := Option.bind_eq_some_iff.mp h
  obtain ⟨a, h2, h⟩ := Option.bind_eq_some_iff.mp h
  have h3 := Option.some.inj h
  clear h
  obtain ⟨g0, g1, g2⟩ := atF_some h1
  obtain ⟨k0, k1, k2⟩ := atF_some h2
  clear h1 h2
  obtain ⟨ad, e, hx⟩ := Kd.at_int hr x k0 k1
  subst e
  obtain ⟨ad2, e, hy⟩ := Kd.at_int hr _ g0 g1
  cases e
  rw [g2] at hy
  rw [k2] at hx
  have HA := Aside0.mk h3
  clear g2 k2 hr h3
  by_cases hm : (l0.length : Int) - 1 < wrap64 (x + 1)
  · have e1 : mn (wrap64 (x + 1)) ((l0.length : Int) - 1) = (l0.length : Int) - 1 := if_pos hm
    rw [e1] at g0 g1 hy
    clear e1
    rw [show ((l0.length : Int) - 1).toNat = l0.length - 1 by omega] at hy
    rw [show wrap64 (x + 1) = x + 1 by unfold wrap64; omega] at hm
    go_enter Try.func57, Try.ntmps57
    go_wp2
    go_quiet (fail)
    try go_wp2
    go_ret
    exact ⟨congrArg (fun z => Ending.returned (.int .i64 z)) HA.out, by repeat (first | exact Drawn0.refl _ | apply Drawn0.step)⟩
  · have e1 : mn (wrap64 (x + 1)) ((l0.length : Int) - 1) = wrap64 (x + 1) := if_neg hm
    rw [e1] at g0 g1 hy
    clear e1
    rw [show wrap64 (x + 1) = x + 1 by unfold wrap64; omega] at hm g0 g1 hy
    go_enter Try.func57, Try.ntmps57
    go_wp2
    go_quiet (fail)
    try go_wp2
    go_ret
    exact ⟨congrArg (fun z => Ending.returned (.int .i64 z)) HA.out, by repeat (first | exact Drawn0.refl _ | apply Drawn0.step)⟩
def impl_LineSamples.f (k : Nat) (l0 : List Int) (a1 : Int) (a2 : Int) : Option (List Int × Bool) := impl_resample.f (lineF a1 l0) k l0 a1 a2
set_option maxHeartbeats 2000000 in
theorem impl_LineSamples.calls (k : Nat) (A0 : Option Addr) (c0 : Nat) (l0 : List Int) (a1 : Int) (a2 : Int) (r1 : List Int) (r2 : Bool) (w : World) (hr0 : Kd.C (Kd.int .i64) w A0 l0.length l0) (hc0 : l0.length ≤ c0) (h : impl_LineSamples.f k l0 a1 a2 = some (r1, r2)) :
    Calls Try.prog 12 #[.slice A0 l0.length c0, .int .i64 a1, .int .i64 a2] w fun e w' => ∃ v0_ : Value, e = .returned (.tuple #[v0_, .bool r2]) ∧ Kd.R (Kd.int .i64) 3 w' w.heap.size (fun _ => True) v0_ r1 ∧ Below w.heap.size w w' := by
  have hB := below_alloc (below_alloc (Below.refl w.heap.size w) (.cells #[.slice A0 l0.length c0] 24)) (.cells #[.int .i64 a1] 3)
  have hcon := impl_resample.calls k A0 c0 l0 a1 a2 (lineF a1 l0) 57 #[.pointer (some ⟨w.heap.size, 0, none⟩), .pointer (some ⟨w.heap.size + 1, 0, none⟩)] (enters_ Try.func57 (by kernel_rfl) rfl) r1 r2 ((w.alloc (.cells #[.slice A0 l0.length c0] 24)).alloc (.cells #[.int .i64 a1] 3))
    (fun W x y r hb hF => by
      refine line_lit A0 c0 l0 a1 w.heap.size (w.heap.size + 1) W ((hb.cell (p := ⟨w.heap.size, 0, none⟩) (by simp; omega)).trans (by simp)) ((hb.cell (p := ⟨w.heap.size + 1, 0, none⟩) (by simp)).trans (by simp)) (Kd.C_below hr0 (below_step hB hb)) x y r hF)
    (Kd.C_below hr0 hB) hc0 h
  have HC := Aside0.mk hc0
  have HB := Aside0.mk hB
  clear hr0 hc0 h hB
  go_enter Try.func12, Try.ntmps12
  go_wp2_with (go_at_call 51; refine hcon.mono ?_; rintro e w1 ⟨v, rfl, hv, hb⟩)
  go_ret2
  exact ⟨v, rfl, Kd.R_lower hv (by simp; omega), below_step HB.out hb⟩

end Go.Proofs.Ytjbpflfihdabhaa.PFnRatesChanged
