-- printed by a program of this claim's own
import Derived.Test.YtcekmdepalbnhaaPFnFirstRunsx0
import Derived.Test.YtcekmdepalbnhaaPFnFirstRunsx3
import Derived.Test.YtcekmdepalbnhaaPFnFirstRunsx4
import Derived.Test.YtcekmdepalbnhaaPFnFirstRunsx5
namespace Go.Proofs.Ytcekmdepalbnhaa.PFnFirstRuns
open Go.RowKit Go.Proofs.YtcekmdepalbnhaaW.PrintWords Go.Proofs.YtcekmdepalbnhaaW.PrintLast Go.Proofs.YtcekmdepalbnhaaW.PrintMore Go.Proofs.Ytcekmdepalbnhaa.Cuts
attribute [local go_sem] max2_int min2_int max_two min_two max_three min_three max_four min_four   -- for this text's walks alone
set_option linter.unusedVariables false
set_option linter.unusedSimpArgs false

/-! ### spec_wdFit: function 167 -/
def spec_wdFit.f (a0_0 : Int) (a0_1 : Bool) (a1 : Int) : Option (Int) := if a0_1 = true then (if 0 ≤ a0_0 then (if (shl .i64 1 a0_0) = 0 then (none) else ((spec_wdHigh.f a0_0 a0_1).bind fun t329 => (if (Int.tmod (wrap64 ((Int.tmod a1 (shl .i64 1 a0_0)) + (shl .i64 1 a0_0))) (shl .i64 1 a0_0)) > t329 then (some (wrap64 ((Int.tmod (wrap64 ((Int.tmod a1 (shl .i64 1 a0_0)) + (shl .i64 1 a0_0))) (shl .i64 1 a0_0)) - (shl .i64 1 a0_0)))) else (some (Int.tmod (wrap64 ((Int.tmod a1 (shl .i64 1 a0_0)) + (shl .i64 1 a0_0))) (shl .i64 1 a0_0)))))) else (none)) else ((spec_wdHigh.f a0_0 a0_1).bind fun t330 => ((spec_wdLow.f a0_0 a0_1).bind fun t331 => ((spec_l1Most.f t331 a1).bind fun t332 => ((spec_l1Least.f t330 t332).bind fun t333 => (some t333)))))
def spec_wdFit.T2 : Bool × List (List Nat × List Nat) := (true, [([], []), ([0], [0]), ([], []), ([2, 1], [2]), ([], []), ([3, 4, 3], [3, 4]), ([1, 5, 5], [1, 5]), ([6, 6, 0, 1, 2, 3, 4, 5, 6], [6])])
def spec_wdFit.B2 : List Nat := [0, 1, 0, 7, 0, 31, 63, 127]
theorem spec_wdFit.tab2 : rtab .any (opsOf Try.f167 2) = spec_wdFit.T2 := by kernel_rfl
theorem spec_wdFit.bits2 : waitsOk spec_wdFit.T2.2 spec_wdFit.B2 = true := by kernel_rfl
set_option maxHeartbeats 80000000 in
set_option maxRecDepth 100000 in
theorem spec_wdFit.calls (a0_0 : Int) (a0_1 : Bool) (a1 : Int) (r : Int) (w : World) (h : spec_wdFit.f a0_0 a0_1 a1 = some r) :
  Calls Try.prog 167 #[.agg #[.int .i64 a0_0, .bool a0_1], .int .i64 a1] w fun e w' => e = .returned (.int .i64 r) ∧ Below w.heap.size w w' := by
 have hu25 := Try.underlying25
 have HB := Aside0.mk (Below.refl w.heap.size w)
 have H : (if a0_1 = true then (if 0 ≤ a0_0 then (if (shl .i64 1 a0_0) = 0 then (none) else ((spec_wdHigh.f a0_0 a0_1).bind fun t329 => (if (Int.tmod (wrap64 ((Int.tmod a1 (shl .i64 1 a0_0)) + (shl .i64 1 a0_0))) (shl .i64 1 a0_0)) > t329 then (some (wrap64 ((Int.tmod (wrap64 ((Int.tmod a1 (shl .i64 1 a0_0)) + (shl .i64 1 a0_0))) (shl .i64 1 a0_0)) - (shl .i64 1 a0_0)))) else (some (Int.tmod (wrap64 ((Int.tmod a1 (shl .i64 1 a0_0)) + (shl .i64 1 a0_0))) (shl .i64 1 a0_0)))))) else (none)) else ((spec_wdHigh.f a0_0 a0_1).bind fun t330 => ((spec_wdLow.f a0_0 a0_1).bind fun t331 => ((spec_l1Most.f t331 a1).bind fun t332 => ((spec_l1Least.f t330 t332).bind fun t333 => (some t333)))))) = some r := h
 clear h
 by_cases c3 : a0_1 = true
 ·subst c3
  rw [if_pos rfl] at H
  by_cases c4 : 0 ≤ a0_0
  ·rw [if_pos c4] at H
   have c4b0 := eq_true c4
   have c4b1 : decide (0 ≤ a0_0) = true := decide_eq_true c4
   clear c4
   obtain ⟨ji5, hji5⟩ : ∃ j_ : Int, (shl .i64 1 a0_0) = j_ := ⟨_, rfl⟩
   replace H : (if (ji5) = 0 then (none) else ((spec_wdHigh.f a0_0 true).bind fun t329 => (if (Int.tmod (wrap64 ((Int.tmod a1 (ji5)) + (ji5))) (ji5)) > t329 then (some (wrap64 ((Int.tmod (wrap64 ((Int.tmod a1 (ji5)) + (ji5))) (ji5)) - (ji5)))) else (some (Int.tmod (wrap64 ((Int.tmod a1 (ji5)) + (ji5))) (ji5)))))) = some r := by first | (rw [hji5] at H; exact H) | (simp only [hji5] at H ⊢; exact H)
   have hji5_ : (IntKind.i64.wrap (1 * 2 ^ min a0_0.toNat 64)) = ji5 := hji5
   have hji5z : a0_0 ≤ 64 → (IntKind.i64.wrap (1 * 2 ^ a0_0.toNat)) = ji5 := shl_small hji5
   have hji5u : (IntKind.i64.wrap (2 ^ min a0_0.toNat 64)) = ji5 := by have h_ := hji5_; rw [Int.one_mul] at h_; exact h_
   have hji5v : a0_0 ≤ 64 → (IntKind.i64.wrap (2 ^ a0_0.toNat)) = ji5 := fun hle_ => by have h_ := hji5z hle_; rw [Int.one_mul] at h_; exact h_
   have hji5y : (wrap64 (1 * 2 ^ min a0_0.toNat 64)) = ji5 := (i64_w _).symm.trans hji5_
   have hji5x : a0_0 ≤ 64 → (wrap64 (1 * 2 ^ a0_0.toNat)) = ji5 := fun h_ => (i64_w _).symm.trans (hji5z h_)
   by_cases c6 : (ji5) = 0
   ·rw [if_pos c6] at H
    exact absurd H (by simp)
   ·rw [if_neg c6] at H
    have c6b0 : ((ji5) == 0) = false := beq_eq_false_iff_ne.mpr c6
    have c6b1 : ((ji5) != 0) = true := bne_iff_ne.mpr c6
    replace H := Option.bind_eq_some_iff.mp H
    obtain ⟨t329, A70, H⟩ := H
    (try dsimp only at H)
    have A7 := Aside0.mk A70
    clear A70
    by_cases c8 : (Int.tmod (wrap64 ((Int.tmod a1 (ji5)) + (ji5))) (ji5)) > t329
    ·rw [if_pos c8] at H
     have c8b0 : decide (t329 < (Int.tmod (wrap64 ((Int.tmod a1 (ji5)) + (ji5))) (ji5))) = true := decide_eq_true c8
     clear c8
     obtain rfl := Option.some.inj H
     go_enter Try.func167, Try.ntmps167
     go_wp2_with (first | ((with_reducible refine gate_dst (N := 2) rfl ?_); refine boxS_ 2 (#[.int .i64 a0_0, .bool true]) 25 ?_; intro gb328 hg w9 hbox hb; have n0_ := Aside0.mk (below_step (bl0 HB.out) hb); have n1_ := Aside0.mk (hbox); have n2_ := Aside0.mk ((by rw [hg]; exact (below_size (bl0 HB.out)) : w.heap.size ≤ gb328)); have n3_ := Aside0.mk ((by rw [hg]; exact (below_size (bl0 HB.out)) : w.heap.size ≤ gb328)); clear HB; have HB := n0_; have BK328 := n1_; have GW328 := n2_; have GE328 := n3_; clear n0_ n1_ n2_ n3_; clear hb hbox hg; obtain ⟨hcz10_0, hcz10_1, hfz10_0, hfz10_1⟩ := cz2 BK328.out) | ((with_reducible refine gate_callee (f := 162) rfl ?_); refine goesLS_ (some 28) Try.func162 #[.agg #[.int .i64 a0_0, .bool true]] ?_; (with_reducible refine (spec_wdHigh.calls a0_0 true t329 _ A7.out).mono ?_); rintro e w11 ⟨rfl, hb⟩; refine ⟨_, rfl, ?_⟩; have n0_ := Aside0.mk (blk_below (g := gb328) (o := .cells #[.int .i64 a0_0, .bool true] 25 (0, 0)) (kb BK328.out) hb); have n1_ := Aside0.mk (below_step (bl1 HB.out GE328.out) hb); clear BK328; clear HB; have BK328 := n0_; have HB := n1_; clear n0_ n1_; (try clear hb); (try clear hb2); (try clear hk); (try clear hi)))
     go_ret
     exact ⟨by first | rfl | (simp [errW_none, errW_some] <;> rfl) | (simp only [← hji5]; first | rfl | (simp [errW_none, errW_some] <;> rfl)) | (simp [*, errW_none, errW_some] <;> rfl), bl1 HB.out GE328.out⟩
    ·rw [if_neg c8] at H
     have c8b0 : decide (t329 < (Int.tmod (wrap64 ((Int.tmod a1 (ji5)) + (ji5))) (ji5))) = false := decide_eq_false c8
     clear c8
     obtain rfl := Option.some.inj H
     go_enter Try.func167, Try.ntmps167
     go_wp2_with (first | ((with_reducible refine gate_dst (N := 2) rfl ?_); refine boxS_ 2 (#[.int .i64 a0_0, .bool true]) 25 ?_; intro gb328 hg w12 hbox hb; have n0_ := Aside0.mk (below_step (bl0 HB.out) hb); have n1_ := Aside0.mk (hbox); have n2_ := Aside0.mk ((by rw [hg]; exact (below_size (bl0 HB.out)) : w.heap.size ≤ gb328)); have n3_ := Aside0.mk ((by rw [hg]; exact (below_size (bl0 HB.out)) : w.heap.size ≤ gb328)); clear HB; have HB := n0_; have BK328 := n1_; have GW328 := n2_; have GE328 := n3_; clear n0_ n1_ n2_ n3_; clear hb hbox hg; obtain ⟨hcz13_0, hcz13_1, hfz13_0, hfz13_1⟩ := cz2 BK328.out) | ((with_reducible refine gate_callee (f := 162) rfl ?_); refine goesLS_ (some 28) Try.func162 #[.agg #[.int .i64 a0_0, .bool true]] ?_; (with_reducible refine (spec_wdHigh.calls a0_0 true t329 _ A7.out).mono ?_); rintro e w14 ⟨rfl, hb⟩; refine ⟨_, rfl, ?_⟩; have n0_ := Aside0.mk (blk_below (g := gb328) (o := .cells #[.int .i64 a0_0, .bool true] 25 (0, 0)) (kb BK328.out) hb); have n1_ := Aside0.mk (below_step (bl1 HB.out GE328.out) hb); clear BK328; clear HB; have BK328 := n0_; have HB := n1_; clear n0_ n1_; (try clear hb); (try clear hb2); (try clear hk); (try clear hi)))
     go_ret
     exact ⟨by first | rfl | (simp [errW_none, errW_some] <;> rfl) | (simp only [← hji5]; first | rfl | (simp [errW_none, errW_some] <;> rfl)) | (simp [*, errW_none, errW_some] <;> rfl), bl1 HB.out GE328.out⟩
  ·rw [if_neg c4] at H
   exact absurd H (by simp)
 ·replace c3 := Bool.eq_false_iff.mpr c3
  subst c3
  rw [if_neg (show ¬ (false = true) by decide)] at H
  replace H := Option.bind_eq_some_iff.mp H
  obtain ⟨t330, A150, H⟩ := H
  (try dsimp only at H)
  have A15 := Aside0.mk A150
  clear A150
  replace H := Option.bind_eq_some_iff.mp H
  obtain ⟨t331, A160, H⟩ := H
  (try dsimp only at H)
  have A16 := Aside0.mk A160
  clear A160
  replace H := Option.bind_eq_some_iff.mp H
  obtain ⟨t332, A170, H⟩ := H
  (try dsimp only at H)
  have A17 := Aside0.mk A170
  clear A170
  replace H := Option.bind_eq_some_iff.mp H
  obtain ⟨t333, A180, H⟩ := H
  (try dsimp only at H)
  have A18 := Aside0.mk A180
  clear A180
  obtain rfl := Option.some.inj H
  go_enter Try.func167, Try.ntmps167
  try go_wp2_with (first | ((with_reducible refine gate_dst (N := 2) rfl ?_); refine boxS_ 2 (#[.int .i64 a0_0, .bool false]) 25 ?_; intro gb328 hg w19 hbox hb; have n0_ := Aside0.mk (below_step (bl0 HB.out) hb); have n1_ := Aside0.mk (hbox); have n2_ := Aside0.mk ((by rw [hg]; exact (below_size (bl0 HB.out)) : w.heap.size ≤ gb328)); have n3_ := Aside0.mk ((by rw [hg]; exact (below_size (bl0 HB.out)) : w.heap.size ≤ gb328)); clear HB; have HB := n0_; have BK328 := n1_; have GW328 := n2_; have GE328 := n3_; clear n0_ n1_ n2_ n3_; clear hb hbox hg; obtain ⟨hcz20_0, hcz20_1, hfz20_0, hfz20_1⟩ := cz2 BK328.out))
  have n0_ := Aside0.mk (blk_drew BK328.out)
  have n1_ := Aside0.mk (below_drew1 HB.out)
  clear BK328
  clear HB
  have BK328 := n0_
  have HB := n1_
  clear n0_ n1_
  refine start_ (n := 8) (S := fun w' => w'.cell? ⟨gb328, 0, none⟩ = some (.int .i64 a0_0) ∧ w'.cell? ⟨gb328, 1, none⟩ = some (.bool false)) (ds := []) (bm 8 0) (by kernel_rfl) rfl rfl ⟨(blk_cell BK328.out 0).trans rfl, (blk_cell BK328.out 1).trans rfl⟩ (fun hHeld => ?_); refine with_tabW spec_wdFit.tab2 spec_wdFit.bits2 (fun HT_ HW_ => ?_)
  generalize w19.drew = w21 at BK328 HB hHeld ⊢
  refine pureT_ 4 13 (bm 8 16) HT_.out ?_
  refine take_ (i := 0) (N := some 9) (v := ?_) (a' := ?_) (bm 8 17) rfl rfl (take_ofW HT_.out HW_.out (by kernel_rfl)) (fun _ _ _ h => h) (Or.inl ⟨by rfl, ?_⟩) hHeld ?_ ?_
  rotate_left
  ·rintro w' ⟨s0, s1⟩
   go_simp
   with_reducible rfl
  rotate_left
  ·simp only [Act.put, List.setIfInBounds_toArray, List.set_cons_zero, List.set_cons_succ, i64_w, i32_w]
   rfl
  refine take_ (i := 2) (N := some 11) (v := ?_) (a' := ?_) (bm 8 21) rfl rfl (take_ofW HT_.out HW_.out (by kernel_rfl)) (fun _ _ _ h => h) (Or.inl ⟨by rfl, ?_⟩) hHeld ?_ ?_
  rotate_left
  ·rintro w' ⟨s0, s1⟩
   go_simp
   with_reducible rfl
  rotate_left
  ·simp only [Act.put, List.setIfInBounds_toArray, List.set_cons_zero, List.set_cons_succ, i64_w, i32_w]
   rfl
  refine one_ (i := 1) (N := some 10) (bm 8 23) rfl rfl (one_of HT_.out (by kernel_rfl)) (by decide) (fun K hK => ?_)
  refine goesS_ Try.func162 #[.agg #[.int .i64 a0_0, .bool false]] ?_
  with_reducible refine (spec_wdHigh.calls a0_0 false t330 _ A15.out).mono ?_
  rintro e w22 ⟨rfl, hb⟩
  refine ⟨_, rfl, ?_⟩
  have n0_ := Aside0.mk (blk_below (g := gb328) (o := .cells #[.int .i64 a0_0, .bool false] 25 (0, 0)) (kb BK328.out) hb)
  have n1_ := Aside0.mk (below_step (bl1 HB.out GE328.out) hb)
  clear BK328
  clear HB
  have BK328 := n0_
  have HB := n1_
  clear n0_ n1_
  (try clear hb)
  (try clear hb2)
  (try clear hk)
  (try clear hi)
  refine hK.out _ _ ⟨(blk_cell BK328.out 0).trans rfl, (blk_cell BK328.out 1).trans rfl⟩ (fun hHeld => ?_)
  clear hK K
  refine norm_ (a' := ?_) ?_ ?_
  rotate_left
  ·show Act.put _ (some 10) _ = _
   simp only [Act.put, List.setIfInBounds_toArray, List.set_cons_zero, List.set_cons_succ, i64_w, i32_w]
   rfl
  refine one_ (i := 3) (N := some 12) (bm 8 31) rfl rfl (one_of HT_.out (by kernel_rfl)) (by decide) (fun K hK => ?_)
  refine goesS_ Try.func122 #[.agg #[.int .i64 a0_0, .bool false]] ?_
  with_reducible refine (spec_wdLow.calls a0_0 false t331 _ A16.out).mono ?_
  rintro e w23 ⟨rfl, hb⟩
  refine ⟨_, rfl, ?_⟩
  have n0_ := Aside0.mk (blk_below (g := gb328) (o := .cells #[.int .i64 a0_0, .bool false] 25 (0, 0)) (kb BK328.out) hb)
  have n1_ := Aside0.mk (below_step (bl1 HB.out GE328.out) hb)
  clear BK328
  clear HB
  have BK328 := n0_
  have HB := n1_
  clear n0_ n1_
  (try clear hb)
  (try clear hb2)
  (try clear hk)
  (try clear hi)
  refine hK.out _ _ ⟨(blk_cell BK328.out 0).trans rfl, (blk_cell BK328.out 1).trans rfl⟩ (fun hHeld => ?_)
  clear hK K
  refine norm_ (a' := ?_) ?_ ?_
  rotate_left
  ·show Act.put _ (some 12) _ = _
   simp only [Act.put, List.setIfInBounds_toArray, List.set_cons_zero, List.set_cons_succ, i64_w, i32_w]
   rfl
  refine one_ (i := 5) (N := some 14) (bm 8 63) rfl rfl (one_of HT_.out (by kernel_rfl)) (by decide) (fun K hK => ?_)
  refine goesS_ Try.func126 #[.int .i64 t331, .int .i64 a1] ?_
  with_reducible refine (spec_l1Most.calls t331 a1 t332 _ A17.out).mono ?_
  rintro e w' ⟨rfl, ⟨nd, rfl⟩⟩
  refine ⟨_, rfl, ?_⟩
  refine hK.out _ _ ⟨(blk_cell BK328.out 0).trans rfl, (blk_cell BK328.out 1).trans rfl⟩ (fun hHeld => ?_)
  clear hK K
  refine norm_ (a' := ?_) ?_ ?_
  rotate_left
  ·show Act.put _ (some 14) _ = _
   simp only [Act.put, List.setIfInBounds_toArray, List.set_cons_zero, List.set_cons_succ, i64_w, i32_w]
   rfl
  refine one_ (i := 6) (N := some 15) (bm 8 127) rfl rfl (one_of HT_.out (by kernel_rfl)) (by decide) (fun K hK => ?_)
  refine goesS_ Try.func194 #[.int .i64 t330, .int .i64 t332] ?_
  with_reducible refine (spec_l1Least.calls t330 t332 t333 _ A18.out).mono ?_
  rintro e w' ⟨rfl, ⟨nd, rfl⟩⟩
  refine ⟨_, rfl, ?_⟩
  refine hK.out _ _ ⟨(blk_cell BK328.out 0).trans rfl, (blk_cell BK328.out 1).trans rfl⟩ (fun hHeld => ?_)
  clear hK K
  refine norm_ (a' := ?_) ?_ ?_
  rotate_left
  ·show Act.put _ (some 15) _ = _
   simp only [Act.put, List.setIfInBounds_toArray, List.set_cons_zero, List.set_cons_succ, i64_w, i32_w]
   rfl
  refine pureT_ 7 4 (bm 8 255) HT_.out ?_
  refine done_ (done_of HT_.out (by kernel_rfl)) ?_
  try go_wp2
  go_ret
  exact ⟨by first | rfl | (simp [errW_none, errW_some] <;> rfl) | (simp [*, errW_none, errW_some] <;> rfl), bl1 HB.out GE328.out⟩

/-! ### spec_foRun: function 88 -/
def spec_foRun.l0 : Nat → Int → List Int → Int → List Int → Int → Int → Int → Int → Int → Int → Bool → Option (List Int × Int)
 | 0, _, _, _, _, _, _, _, _, _, _, _ => none
 | k + 1, x1, x8, x9, x13, x14, x15, x335000, x335001, x335002, x335003, x335004 => if x15 < x14 then (if 0 ≤ x15 then (if x15 < (x13.length : Int) then ((spec_foRaw.f k x335000 x335001 x335002 x335003 x335004 x1 (rd x13 x15)).bind fun t336 => ((spec_wdFit.f x335003 x335004 t336).bind fun t337 => (if t337 = t336 then (if x8.length < 17592186044416 then (spec_foRun.l0 k t337 (x8 ++ [t337]) x9 x13 x14 (wrap64 (x15 + 1)) x335000 x335001 x335002 x335003 x335004) else (none)) else (if x8.length < 17592186044416 then (spec_foRun.l0 k t337 (x8 ++ [t337]) (wrap64 (x9 + 1)) x13 x14 (wrap64 (x15 + 1)) x335000 x335001 x335002 x335003 x335004) else (none))))) else (none)) else (none)) else (some (x8, x9))
def spec_foRun.f (k : Nat) (a0_0 : Int) (a0_1 : Int) (a0_2 : Int) (a0_3 : Int) (a0_4 : Bool) (a1 : Int) (l2 : List Int) : Option (List Int × Int) := spec_foRun.l0 k a1 ([] : List Int) 0 l2 (l2.length : Int) 0 a0_0 a0_1 a0_2 a0_3 a0_4

set_option maxHeartbeats 80000000 in
set_option maxRecDepth 100000 in
theorem spec_foRun.calls (k : Nat) (a0_0 : Int) (a0_1 : Int) (a0_2 : Int) (a0_3 : Int) (a0_4 : Bool) (a1 : Int) (A2 : Option Addr) (c2 : Nat) (l2 : List Int) (r1 : List Int) (r2 : Int) (w : World) (hr2 : Kd.C (Kd.int .i64) w A2 l2.length l2) (hc2 : l2.length ≤ c2) (h : spec_foRun.f k a0_0 a0_1 a0_2 a0_3 a0_4 a1 l2 = some (r1, r2)) :
  Calls Try.prog 88 #[.agg #[.int .i64 a0_0, .int .i64 a0_1, .int .i64 a0_2, .int .i64 a0_3, .bool a0_4], .int .i64 a1, .slice A2 l2.length c2] w fun e w' => ∃ v0_ : Value, e = .returned (.tuple #[v0_, .int .i64 r2]) ∧ Kd.R (Kd.int .i64) 3 w' w.heap.size (fun _ => True) v0_ r1 ∧ Below w.heap.size w w' := by
 have hu27 := Try.underlying27
 have hu25 := Try.underlying25
 have HR2 := Aside0.mk hr2
 have HC2 := Aside0.mk hc2
 clear hr2 hc2
 have HB := Aside0.mk (Below.refl w.heap.size w)
 have H : (spec_foRun.l0 k a1 ([] : List Int) 0 l2 (l2.length : Int) 0 a0_0 a0_1 a0_2 a0_3 a0_4) = some (r1, r2) := h
 clear h
 have H' := Aside0.mk H
 clear H
 go_enter Try.func88, Try.ntmps88
 go_wp2_with (first | ((with_reducible refine gate_dst (N := 3) rfl ?_); refine boxS_ 3 (#[.int .i64 a0_0, .int .i64 a0_1, .int .i64 a0_2, .int .i64 a0_3, .bool a0_4]) 27 ?_; intro gb334 hg w4 hbox hb; have n0_ := Aside0.mk (below_step (bl0 HB.out) hb); have n1_ := Aside0.mk (hbox); have n2_ := Aside0.mk ((by rw [hg]; exact (below_size (bl0 HB.out)) : w.heap.size ≤ gb334)); have n3_ := Aside0.mk ((by rw [hg]; exact (below_size (bl0 HB.out)) : w.heap.size ≤ gb334)); clear HB; have HB := n0_; have BK334 := n1_; have GW334 := n2_; have GE334 := n3_; clear n0_ n1_ n2_ n3_; clear hb hbox hg))
 go_loopg [1, 8, 9, 15] k (fun kq v1 v8 v9 v15 w' => ∃ (x1_1 : Int) (x8_1 : List Int) (x9_1 : Int) (x15_1 : Int), v1 = .int .i64 x1_1 ∧ v9 = .int .i64 x9_1 ∧ v15 = .int .i64 x15_1 ∧ Aside0 (spec_foRun.l0 kq x1_1 x8_1 x9_1 l2 (l2.length : Int) x15_1 a0_0 a0_1 a0_2 a0_3 a0_4 = some (r1, r2)) ∧ Aside0 (kq ≤ k) ∧ Aside0 (Kd.R (Kd.int .i64) 3 w' w.heap.size (fun _ => True) v8 x8_1) ∧ Aside0 (w'.heap[gb334]? = some (.cells #[.int .i64 a0_0, .int .i64 a0_1, .int .i64 a0_2, .int .i64 a0_3, .bool a0_4] 27 (0, 0))) ∧ Aside0 (Below w.heap.size w w'))
 case atStart => exact ⟨(a1), (([] : List Int)), (0), (0), (by first | rfl | (simp; done) | (simp [*]; done)), (by first | rfl | (simp; done) | (simp [*]; done)), (by first | rfl | (simp; done) | (simp [*]; done)), H', ⟨Nat.le_refl _⟩, ⟨by first | exact Kd.R_nil _ _ _ _ _ | exact Kd.N_nil _ _ _ _ _ | exact Kd.V_nil _ _ _ _ _ | exact Kd.Q_nil _ _ _ _ _ | exact Kd.S_nil _ _ _ _ _⟩, ⟨kb BK334.out⟩, ⟨bl1 HB.out GE334.out⟩⟩
 case round =>
  clear H'
  try clear c2
  try clear p2
  obtain ⟨x1_1, x8_1, x9_1, x15_1, rfl, rfl, rfl, HA, HK1, HO_8, BK334, HB⟩ := hrel
  cases gk with
  | zero => exact absurd HA.out (by simp [spec_foRun.l0])
  | succ k1 =>
   have H := HA.out
   clear HA
   simp only [spec_foRun.l0] at H
   by_cases c5 : x15_1 < (l2.length : Int)
   ·rw [if_pos c5] at H
    have c5b0 : decide (x15_1 < (l2.length : Int)) = true := decide_eq_true c5
    clear c5
    by_cases c6 : 0 ≤ x15_1
    ·rw [if_pos c6] at H
     have c6b0 : decide (0 ≤ x15_1) = true := decide_eq_true c6
     clear c6
     by_cases c7 : x15_1 < (l2.length : Int)
     ·rw [if_pos c7] at H
      have c7b0 : decide (x15_1 < (l2.length : Int)) = true := decide_eq_true c7
      clear c7
      replace H := Option.bind_eq_some_iff.mp H
      obtain ⟨t336, A80, H⟩ := H
      (try dsimp only at H)
      have A8 := Aside0.mk A80
      clear A80
      replace H := Option.bind_eq_some_iff.mp H
      obtain ⟨t337, A90, H⟩ := H
      (try dsimp only at H)
      have A9 := Aside0.mk A90
      clear A90
      by_cases c10 : t337 = t336
      ·rw [if_pos c10] at H
       have c10b0 : (t337 == t336) = true := beq_iff_eq.mpr c10
       have c10b1 : (t337 != t336) = false := bne_eq_false_iff_eq.mpr c10
       clear c10
       by_cases c11 : x8_1.length < 17592186044416
       ·rw [if_pos c11] at H
        have LMc11 := Aside0.mk c11
        clear c11
        obtain ⟨y338, hy338⟩ : ∃ y_ : List Int, y_ = (x8_1 ++ [t337]) := ⟨_, rfl⟩
        replace H : (spec_foRun.l0 k1 t337 y338 x9_1 l2 (l2.length : Int) (wrap64 (x15_1 + 1)) a0_0 a0_1 a0_2 a0_3 a0_4) = some (r1, r2) := by first | (rw [hy338]; with_reducible exact H) | (have H2_ := (Option.bind_some _ _).symm.trans H; rw [hy338]; with_reducible exact H2_) | (have H2_ := (Option.bind_some _ _).symm.trans H; with_reducible exact H2_) | with_reducible exact H | (rw [hy338]; exact H) | exact H
        have Ny338 := Aside0.mk hy338
        clear hy338
        have H' := Aside0.mk H
        clear H
        have p335 : 0 ≤ (x15_1 : Int) := of_decide_eq_true (by first | (with_reducible assumption) | assumption)
        have q335 : x15_1 < (l2.length : Int) := of_decide_eq_true (by first | (with_reducible assumption) | assumption)
        obtain ⟨ad335, e335, hx335_0⟩ := Kd.at_int HR2.out x15_1 p335 q335
        cases e335
        replace hx335_0 := (HB.out.cell (World.block_lt_of_cell? w _ hx335_0)).trans hx335_0
        replace p335 := eq_true p335
        replace q335 := eq_true q335
        obtain ⟨hcz12_0, hcz12_1, hcz12_2, hcz12_3, hcz12_4, hfz12_0, hfz12_1, hfz12_2, hfz12_3, hfz12_4⟩ := cz5 BK334.out
        go_wp2_with (first | ((with_reducible refine gate_callee (f := 166) rfl ?_); refine goesLS_ (some 22) Try.func166 #[.agg #[.int .i64 a0_0, .int .i64 a0_1, .int .i64 a0_2, .int .i64 a0_3, .bool a0_4], .int .i64 x1_1, .int .i64 (rd l2 x15_1)] ?_; (with_reducible refine (spec_foRaw.calls k1 a0_0 a0_1 a0_2 a0_3 a0_4 x1_1 (rd l2 x15_1) t336 _ A8.out).mono ?_); rintro e w13 ⟨rfl, hb⟩; refine ⟨_, rfl, ?_⟩; have n0_ := Aside0.mk (Kd.R_below (kr HO_8.out) hb); have n1_ := Aside0.mk (blk_below (g := gb334) (o := .cells #[.int .i64 a0_0, .int .i64 a0_1, .int .i64 a0_2, .int .i64 a0_3, .bool a0_4] 27 (0, 0)) (kb BK334.out) hb); have n2_ := Aside0.mk (below_step (bl1 HB.out GE334.out) hb); clear HO_8; clear BK334; clear HB; have HO_8 := n0_; have BK334 := n1_; have HB := n2_; clear n0_ n1_ n2_; (try clear hb); (try clear hb2); (try clear hk); (try clear hi); obtain ⟨hcz14_0, hcz14_1, hcz14_2, hcz14_3, hcz14_4, hfz14_0, hfz14_1, hfz14_2, hfz14_3, hfz14_4⟩ := cz5 BK334.out) | ((with_reducible refine gate_callee (f := 167) rfl ?_); refine goesLS_ (some 26) Try.func167 #[.agg #[.int .i64 a0_3, .bool a0_4], .int .i64 t336] ?_; (with_reducible refine (spec_wdFit.calls a0_3 a0_4 t336 t337 _ A9.out).mono ?_); rintro e w15 ⟨rfl, hb⟩; refine ⟨_, rfl, ?_⟩; have n0_ := Aside0.mk (Kd.R_below (kr HO_8.out) hb); have n1_ := Aside0.mk (blk_below (g := gb334) (o := .cells #[.int .i64 a0_0, .int .i64 a0_1, .int .i64 a0_2, .int .i64 a0_3, .bool a0_4] 27 (0, 0)) (kb BK334.out) hb); have n2_ := Aside0.mk (below_step (bl1 HB.out GE334.out) hb); clear HO_8; clear BK334; clear HB; have HO_8 := n0_; have BK334 := n1_; have HB := n2_; clear n0_ n1_ n2_; (try clear hb); (try clear hb2); (try clear hk); (try clear hi)) | ((with_reducible refine gate_builtin (b := .append) (xs := #[.tmp 32, .tmp 34]) rfl ?_); at_builtin; refine Kd.R_append (Kd.int .i64) (w0 := w) w.heap.size rfl (.tmp 32) (.tmp 34) 28 3 (.int .i64 0) 8 rfl Try.underlying28 info3 rfl (by decide) (by omega) u8 x8_1 t337 [.int .i64 t337] (fun _ => True) (fun _ => False) rfl rfl ?aP (fun _ hk => hk.elim) ?aF ?aO ?aB ?aS ?aL ?_; (case aP => exact rfl); (case aB => exact (bl1 HB.out GE334.out)); (case aF => exact (fun _ _ => trivial)); (case aO => exact (kr HO_8.out)); (case aS => exact (below_size (bl1 HB.out GE334.out))); (case aL => have := LMc11.out; omega); intro v339 w16 ho hb hg hat; rw [← Ny338.out] at ho; have n0_ := Aside0.mk (blk_grown (g := gb334) (o := .cells #[.int .i64 a0_0, .int .i64 a0_1, .int .i64 a0_2, .int .i64 a0_3, .bool a0_4] 27 (0, 0)) (kb BK334.out) hg (Kd.R_ne HO_8.out BK334.out (by decide))); have n1_ := Aside0.mk (hb); have n2_ := Aside0.mk (ho); clear BK334; clear HB; clear HO_8; have BK334 := n0_; have HB := n1_; have HO340 := n2_; clear n0_ n1_ n2_; clear ho hb hg hat))
        go_roundg k1
        case measure => have := HK1.out; omega
        case rel => exact ⟨(t337), (y338), (x9_1), (wrap64 (x15_1 + 1)), (by first | rfl | (simp; done) | (simp [*]; done)), (by first | rfl | (simp; done) | (simp [*]; done)), (by first | rfl | (simp; done) | (simp [*]; done)), H', ⟨by have := HK1.out; omega⟩, ⟨kr HO340.out⟩, ⟨kb BK334.out⟩, ⟨bl1 HB.out GE334.out⟩⟩
       ·rw [if_neg c11] at H
        exact absurd H (by simp)
      ·rw [if_neg c10] at H
       have c10b0 : (t337 == t336) = false := beq_eq_false_iff_ne.mpr c10
       have c10b1 : (t337 != t336) = true := bne_iff_ne.mpr c10
       by_cases c17 : x8_1.length < 17592186044416
       ·rw [if_pos c17] at H
        have LMc17 := Aside0.mk c17
        clear c17
        obtain ⟨y341, hy341⟩ : ∃ y_ : List Int, y_ = (x8_1 ++ [t337]) := ⟨_, rfl⟩
        replace H : (spec_foRun.l0 k1 t337 y341 (wrap64 (x9_1 + 1)) l2 (l2.length : Int) (wrap64 (x15_1 + 1)) a0_0 a0_1 a0_2 a0_3 a0_4) = some (r1, r2) := by first | (rw [hy341]; with_reducible exact H) | (have H2_ := (Option.bind_some _ _).symm.trans H; rw [hy341]; with_reducible exact H2_) | (have H2_ := (Option.bind_some _ _).symm.trans H; with_reducible exact H2_) | with_reducible exact H | (rw [hy341]; exact H) | exact H
        have Ny341 := Aside0.mk hy341
        clear hy341
        have H' := Aside0.mk H
        clear H
        have p335 : 0 ≤ (x15_1 : Int) := of_decide_eq_true (by first | (with_reducible assumption) | assumption)
        have q335 : x15_1 < (l2.length : Int) := of_decide_eq_true (by first | (with_reducible assumption) | assumption)
        obtain ⟨ad335, e335, hx335_0⟩ := Kd.at_int HR2.out x15_1 p335 q335
        cases e335
        replace hx335_0 := (HB.out.cell (World.block_lt_of_cell? w _ hx335_0)).trans hx335_0
        replace p335 := eq_true p335
        replace q335 := eq_true q335
        obtain ⟨hcz18_0, hcz18_1, hcz18_2, hcz18_3, hcz18_4, hfz18_0, hfz18_1, hfz18_2, hfz18_3, hfz18_4⟩ := cz5 BK334.out
        go_wp2_with (first | ((with_reducible refine gate_callee (f := 166) rfl ?_); refine goesLS_ (some 22) Try.func166 #[.agg #[.int .i64 a0_0, .int .i64 a0_1, .int .i64 a0_2, .int .i64 a0_3, .bool a0_4], .int .i64 x1_1, .int .i64 (rd l2 x15_1)] ?_; (with_reducible refine (spec_foRaw.calls k1 a0_0 a0_1 a0_2 a0_3 a0_4 x1_1 (rd l2 x15_1) t336 _ A8.out).mono ?_); rintro e w19 ⟨rfl, hb⟩; refine ⟨_, rfl, ?_⟩; have n0_ := Aside0.mk (Kd.R_below (kr HO_8.out) hb); have n1_ := Aside0.mk (blk_below (g := gb334) (o := .cells #[.int .i64 a0_0, .int .i64 a0_1, .int .i64 a0_2, .int .i64 a0_3, .bool a0_4] 27 (0, 0)) (kb BK334.out) hb); have n2_ := Aside0.mk (below_step (bl1 HB.out GE334.out) hb); clear HO_8; clear BK334; clear HB; have HO_8 := n0_; have BK334 := n1_; have HB := n2_; clear n0_ n1_ n2_; (try clear hb); (try clear hb2); (try clear hk); (try clear hi); obtain ⟨hcz20_0, hcz20_1, hcz20_2, hcz20_3, hcz20_4, hfz20_0, hfz20_1, hfz20_2, hfz20_3, hfz20_4⟩ := cz5 BK334.out) | ((with_reducible refine gate_callee (f := 167) rfl ?_); refine goesLS_ (some 26) Try.func167 #[.agg #[.int .i64 a0_3, .bool a0_4], .int .i64 t336] ?_; (with_reducible refine (spec_wdFit.calls a0_3 a0_4 t336 t337 _ A9.out).mono ?_); rintro e w21 ⟨rfl, hb⟩; refine ⟨_, rfl, ?_⟩; have n0_ := Aside0.mk (Kd.R_below (kr HO_8.out) hb); have n1_ := Aside0.mk (blk_below (g := gb334) (o := .cells #[.int .i64 a0_0, .int .i64 a0_1, .int .i64 a0_2, .int .i64 a0_3, .bool a0_4] 27 (0, 0)) (kb BK334.out) hb); have n2_ := Aside0.mk (below_step (bl1 HB.out GE334.out) hb); clear HO_8; clear BK334; clear HB; have HO_8 := n0_; have BK334 := n1_; have HB := n2_; clear n0_ n1_ n2_; (try clear hb); (try clear hb2); (try clear hk); (try clear hi)) | ((with_reducible refine gate_builtin (b := .append) (xs := #[.tmp 32, .tmp 34]) rfl ?_); at_builtin; refine Kd.R_append (Kd.int .i64) (w0 := w) w.heap.size rfl (.tmp 32) (.tmp 34) 28 3 (.int .i64 0) 8 rfl Try.underlying28 info3 rfl (by decide) (by omega) u8 x8_1 t337 [.int .i64 t337] (fun _ => True) (fun _ => False) rfl rfl ?aP (fun _ hk => hk.elim) ?aF ?aO ?aB ?aS ?aL ?_; (case aP => exact rfl); (case aB => exact (bl1 HB.out GE334.out)); (case aF => exact (fun _ _ => trivial)); (case aO => exact (kr HO_8.out)); (case aS => exact (below_size (bl1 HB.out GE334.out))); (case aL => have := LMc17.out; omega); intro v342 w22 ho hb hg hat; rw [← Ny341.out] at ho; have n0_ := Aside0.mk (blk_grown (g := gb334) (o := .cells #[.int .i64 a0_0, .int .i64 a0_1, .int .i64 a0_2, .int .i64 a0_3, .bool a0_4] 27 (0, 0)) (kb BK334.out) hg (Kd.R_ne HO_8.out BK334.out (by decide))); have n1_ := Aside0.mk (hb); have n2_ := Aside0.mk (ho); clear BK334; clear HB; clear HO_8; have BK334 := n0_; have HB := n1_; have HO343 := n2_; clear n0_ n1_ n2_; clear ho hb hg hat))
        go_roundg k1
        case measure => have := HK1.out; omega
        case rel => exact ⟨(t337), (y341), (wrap64 (x9_1 + 1)), (wrap64 (x15_1 + 1)), (by first | rfl | (simp; done) | (simp [*]; done)), (by first | rfl | (simp; done) | (simp [*]; done)), (by first | rfl | (simp; done) | (simp [*]; done)), H', ⟨by have := HK1.out; omega⟩, ⟨kr HO343.out⟩, ⟨kb BK334.out⟩, ⟨bl1 HB.out GE334.out⟩⟩
       ·rw [if_neg c17] at H
        exact absurd H (by simp)
     ·rw [if_neg c7] at H
      exact absurd H (by simp)
    ·rw [if_neg c6] at H
     exact absurd H (by simp)
   ·rw [if_neg c5] at H
    have c5b0 : decide (x15_1 < (l2.length : Int)) = false := decide_eq_false c5
    clear c5
    simp only [Option.some.injEq, Prod.mk.injEq] at H
    obtain ⟨rfl, rfl⟩ := H
    go_wp2
    go_ret2
    exact ⟨_, by first | rfl | (simp [errW_none, errW_some] <;> rfl) | (simp [*, errW_none, errW_some] <;> rfl), kr HO_8.out, bl1 HB.out GE334.out⟩

/-! ### spec_RunFirst: function 10 -/
def spec_RunFirst.f (k : Nat) (a0_0 : Int) (a0_1 : Int) (a0_2 : Int) (a0_3 : Int) (a0_4 : Bool) (a1 : Int) (l2 : List Int) : Option (List Int × Bool) := (spec_foAsked.f a0_0 a0_1 a0_2 a0_3 a0_4 a1 0).bind fun t345 => (if t345 = true then ((spec_wdSignal.f k l2).bind fun t346 => (if t346 = true then ((spec_foRun.f k a0_0 a0_1 a0_2 a0_3 a0_4 a1 l2).bind fun bt347 => (some (bt347.1, true))) else (some (([] : List Int), false)))) else (some (([] : List Int), false)))

set_option maxHeartbeats 80000000 in
set_option maxRecDepth 100000 in
theorem spec_RunFirst.calls (k : Nat) (a0_0 : Int) (a0_1 : Int) (a0_2 : Int) (a0_3 : Int) (a0_4 : Bool) (a1 : Int) (A2 : Option Addr) (c2 : Nat) (l2 : List Int) (r1 : List Int) (r2 : Bool) (w : World) (hr2 : Kd.C (Kd.int .i64) w A2 l2.length l2) (hc2 : l2.length ≤ c2) (h : spec_RunFirst.f k a0_0 a0_1 a0_2 a0_3 a0_4 a1 l2 = some (r1, r2)) :
  Calls Try.prog 10 #[.agg #[.int .i64 a0_0, .int .i64 a0_1, .int .i64 a0_2, .int .i64 a0_3, .bool a0_4], .int .i64 a1, .slice A2 l2.length c2] w fun e w' => ∃ v0_ : Value, e = .returned (.tuple #[v0_, .bool r2]) ∧ Kd.R (Kd.int .i64) 3 w' w.heap.size (fun _ => True) v0_ r1 ∧ Below w.heap.size w w' := by
 have hu27 := Try.underlying27
 have HR2 := Aside0.mk hr2
 have HC2 := Aside0.mk hc2
 clear hr2 hc2
 have HB := Aside0.mk (Below.refl w.heap.size w)
 have H : ((spec_foAsked.f a0_0 a0_1 a0_2 a0_3 a0_4 a1 0).bind fun t345 => (if t345 = true then ((spec_wdSignal.f k l2).bind fun t346 => (if t346 = true then ((spec_foRun.f k a0_0 a0_1 a0_2 a0_3 a0_4 a1 l2).bind fun bt347 => (some (bt347.1, true))) else (some (([] : List Int), false)))) else (some (([] : List Int), false)))) = some (r1, r2) := h
 clear h
 replace H := Option.bind_eq_some_iff.mp H
 obtain ⟨t345, A40, H⟩ := H
 (try dsimp only at H)
 have A4 := Aside0.mk A40
 clear A40
 by_cases c5 : t345 = true
 ·subst c5
  rw [if_pos rfl] at H
  replace H := Option.bind_eq_some_iff.mp H
  obtain ⟨t346, A60, H⟩ := H
  (try dsimp only at H)
  have A6 := Aside0.mk A60
  clear A60
  by_cases c7 : t346 = true
  ·subst c7
   rw [if_pos rfl] at H
   replace H := Option.bind_eq_some_iff.mp H
   obtain ⟨⟨t347, t350⟩, A80, H⟩ := H
   (try dsimp only at H)
   have A8 := Aside0.mk A80
   clear A80
   simp only [Option.some.injEq, Prod.mk.injEq] at H
   obtain ⟨rfl, rfl⟩ := H
   go_enter Try.func10, Try.ntmps10
   go_wp2_with (first | ((with_reducible refine gate_dst (N := 3) rfl ?_); refine boxS_ 3 (#[.int .i64 a0_0, .int .i64 a0_1, .int .i64 a0_2, .int .i64 a0_3, .bool a0_4]) 27 ?_; intro gb344 hg w9 hbox hb; have n0_ := Aside0.mk (below_step (bl0 HB.out) hb); have n1_ := Aside0.mk (hbox); have n2_ := Aside0.mk ((by rw [hg]; exact (below_size (bl0 HB.out)) : w.heap.size ≤ gb344)); have n3_ := Aside0.mk ((by rw [hg]; exact (below_size (bl0 HB.out)) : w.heap.size ≤ gb344)); clear HB; have HB := n0_; have BK344 := n1_; have GW344 := n2_; have GE344 := n3_; clear n0_ n1_ n2_ n3_; clear hb hbox hg; obtain ⟨hcz10_0, hcz10_1, hcz10_2, hcz10_3, hcz10_4, hfz10_0, hfz10_1, hfz10_2, hfz10_3, hfz10_4⟩ := cz5 BK344.out) | ((with_reducible refine gate_callee (f := 86) rfl ?_); refine goesLS_ (some 12) Try.func86 #[.agg #[.int .i64 a0_0, .int .i64 a0_1, .int .i64 a0_2, .int .i64 a0_3, .bool a0_4], .int .i64 a1, .int .i64 0] ?_; (with_reducible refine (spec_foAsked.calls a0_0 a0_1 a0_2 a0_3 a0_4 a1 0 true _ A4.out).mono ?_); rintro e w11 ⟨rfl, hb⟩; refine ⟨_, rfl, ?_⟩; have n0_ := Aside0.mk (blk_below (g := gb344) (o := .cells #[.int .i64 a0_0, .int .i64 a0_1, .int .i64 a0_2, .int .i64 a0_3, .bool a0_4] 27 (0, 0)) (kb BK344.out) hb); have n1_ := Aside0.mk (below_step (bl1 HB.out GE344.out) hb); clear BK344; clear HB; have BK344 := n0_; have HB := n1_; clear n0_ n1_; (try clear hb); (try clear hb2); (try clear hk); (try clear hi)) | (go_at_call 87; (with_reducible refine (spec_wdSignal.calls k _ _ l2 true _ ?side1 ?side2 A6.out).mono ?_); (case side1 => repeat (first | exact (Kd.C_below HR2.out HB.out) | (with_reducible refine Kd.C_alloc ?_ _) | (with_reducible refine Kd.C_drewN ?_ _) | (with_reducible refine Kd.C_drew ?_))); (case side2 => exact HC2.out); rintro e w' ⟨rfl, ⟨nd, rfl⟩⟩; obtain ⟨hcz12_0, hcz12_1, hcz12_2, hcz12_3, hcz12_4, hfz12_0, hfz12_1, hfz12_2, hfz12_3, hfz12_4⟩ := cz5 BK344.out) | ((with_reducible refine gate_callee (f := 88) rfl ?_); refine goesLS_ (some 23) Try.func88 #[.agg #[.int .i64 a0_0, .int .i64 a0_1, .int .i64 a0_2, .int .i64 a0_3, .bool a0_4], .int .i64 a1, .slice A2 l2.length c2] ?_; (with_reducible refine (spec_foRun.calls k a0_0 a0_1 a0_2 a0_3 a0_4 a1 _ _ l2 t347 t350 _ ?side1 ?side2 A8.out).mono ?_); (case side1 => repeat (first | exact (Kd.C_below HR2.out (bl1 HB.out GE344.out)) | (with_reducible refine Kd.C_alloc ?_ _) | (with_reducible refine Kd.C_drewN ?_ _) | (with_reducible refine Kd.C_drew ?_))); (case side2 => exact HC2.out); rintro e w13 ⟨v348, rfl, ho0, hb⟩; refine ⟨_, rfl, ?_⟩; have n0_ := Aside0.mk (Kd.R_lower ho0 (below_size (bl1 HB.out GE344.out))); have n1_ := Aside0.mk (blk_below (g := gb344) (o := .cells #[.int .i64 a0_0, .int .i64 a0_1, .int .i64 a0_2, .int .i64 a0_3, .bool a0_4] 27 (0, 0)) (kb BK344.out) hb); have n2_ := Aside0.mk (below_step (bl1 HB.out GE344.out) hb); clear BK344; clear HB; have HO349 := n0_; have BK344 := n1_; have HB := n2_; clear n0_ n1_ n2_; (try clear hb); (try clear hb2); (try clear hk); (try clear hi); (try clear ho0)))
   go_ret2
   exact ⟨_, by first | rfl | (simp [errW_none, errW_some] <;> rfl) | (simp [*, errW_none, errW_some] <;> rfl), kr HO349.out, bl1 HB.out GE344.out⟩
  ·replace c7 := Bool.eq_false_iff.mpr c7
   subst c7
   rw [if_neg (show ¬ (false = true) by decide)] at H
   simp only [Option.some.injEq, Prod.mk.injEq] at H
   obtain ⟨rfl, rfl⟩ := H
   go_enter Try.func10, Try.ntmps10
   go_wp2_with (first | ((with_reducible refine gate_dst (N := 3) rfl ?_); refine boxS_ 3 (#[.int .i64 a0_0, .int .i64 a0_1, .int .i64 a0_2, .int .i64 a0_3, .bool a0_4]) 27 ?_; intro gb344 hg w14 hbox hb; have n0_ := Aside0.mk (below_step (bl0 HB.out) hb); have n1_ := Aside0.mk (hbox); have n2_ := Aside0.mk ((by rw [hg]; exact (below_size (bl0 HB.out)) : w.heap.size ≤ gb344)); have n3_ := Aside0.mk ((by rw [hg]; exact (below_size (bl0 HB.out)) : w.heap.size ≤ gb344)); clear HB; have HB := n0_; have BK344 := n1_; have GW344 := n2_; have GE344 := n3_; clear n0_ n1_ n2_ n3_; clear hb hbox hg; obtain ⟨hcz15_0, hcz15_1, hcz15_2, hcz15_3, hcz15_4, hfz15_0, hfz15_1, hfz15_2, hfz15_3, hfz15_4⟩ := cz5 BK344.out) | ((with_reducible refine gate_callee (f := 86) rfl ?_); refine goesLS_ (some 12) Try.func86 #[.agg #[.int .i64 a0_0, .int .i64 a0_1, .int .i64 a0_2, .int .i64 a0_3, .bool a0_4], .int .i64 a1, .int .i64 0] ?_; (with_reducible refine (spec_foAsked.calls a0_0 a0_1 a0_2 a0_3 a0_4 a1 0 true _ A4.out).mono ?_); rintro e w16 ⟨rfl, hb⟩; refine ⟨_, rfl, ?_⟩; have n0_ := Aside0.mk (blk_below (g := gb344) (o := .cells #[.int .i64 a0_0, .int .i64 a0_1, .int .i64 a0_2, .int .i64 a0_3, .bool a0_4] 27 (0, 0)) (kb BK344.out) hb); have n1_ := Aside0.mk (below_step (bl1 HB.out GE344.out) hb); clear BK344; clear HB; have BK344 := n0_; have HB := n1_; clear n0_ n1_; (try clear hb); (try clear hb2); (try clear hk); (try clear hi)) | (go_at_call 87; (with_reducible refine (spec_wdSignal.calls k _ _ l2 false _ ?side1 ?side2 A6.out).mono ?_); (case side1 => repeat (first | exact (Kd.C_below HR2.out HB.out) | (with_reducible refine Kd.C_alloc ?_ _) | (with_reducible refine Kd.C_drewN ?_ _) | (with_reducible refine Kd.C_drew ?_))); (case side2 => exact HC2.out); rintro e w' ⟨rfl, ⟨nd, rfl⟩⟩))
   go_ret2
   exact ⟨_, by first | rfl | (simp [errW_none, errW_some] <;> rfl) | (simp [*, errW_none, errW_some] <;> rfl), by first | exact Kd.R_nil _ _ _ _ _ | exact Kd.N_nil _ _ _ _ _ | exact Kd.V_nil _ _ _ _ _ | exact Kd.Q_nil _ _ _ _ _ | exact Kd.S_nil _ _ _ _ _, bl1 HB.out GE344.out⟩
 ·replace c5 := Bool.eq_false_iff.mpr c5
  subst c5
  rw [if_neg (show ¬ (false = true) by decide)] at H
  simp only [Option.some.injEq, Prod.mk.injEq] at H
  obtain ⟨rfl, rfl⟩ := H
  go_enter Try.func10, Try.ntmps10
  go_wp2_with (first | ((with_reducible refine gate_dst (N := 3) rfl ?_); refine boxS_ 3 (#[.int .i64 a0_0, .int .i64 a0_1, .int .i64 a0_2, .int .i64 a0_3, .bool a0_4]) 27 ?_; intro gb344 hg w17 hbox hb; have n0_ := Aside0.mk (below_step (bl0 HB.out) hb); have n1_ := Aside0.mk (hbox); have n2_ := Aside0.mk ((by rw [hg]; exact (below_size (bl0 HB.out)) : w.heap.size ≤ gb344)); have n3_ := Aside0.mk ((by rw [hg]; exact (below_size (bl0 HB.out)) : w.heap.size ≤ gb344)); clear HB; have HB := n0_; have BK344 := n1_; have GW344 := n2_; have GE344 := n3_; clear n0_ n1_ n2_ n3_; clear hb hbox hg; obtain ⟨hcz18_0, hcz18_1, hcz18_2, hcz18_3, hcz18_4, hfz18_0, hfz18_1, hfz18_2, hfz18_3, hfz18_4⟩ := cz5 BK344.out) | ((with_reducible refine gate_callee (f := 86) rfl ?_); refine goesLS_ (some 12) Try.func86 #[.agg #[.int .i64 a0_0, .int .i64 a0_1, .int .i64 a0_2, .int .i64 a0_3, .bool a0_4], .int .i64 a1, .int .i64 0] ?_; (with_reducible refine (spec_foAsked.calls a0_0 a0_1 a0_2 a0_3 a0_4 a1 0 false _ A4.out).mono ?_); rintro e w19 ⟨rfl, hb⟩; refine ⟨_, rfl, ?_⟩; have n0_ := Aside0.mk (blk_below (g := gb344) (o := .cells #[.int .i64 a0_0, .int .i64 a0_1, .int .i64 a0_2, .int .i64 a0_3, .bool a0_4] 27 (0, 0)) (kb BK344.out) hb); have n1_ := Aside0.mk (below_step (bl1 HB.out GE344.out) hb); clear BK344; clear HB; have BK344 := n0_; have HB := n1_; clear n0_ n1_; (try clear hb); (try clear hb2); (try clear hk); (try clear hi)))
  go_ret2
  exact ⟨_, by first | rfl | (simp [errW_none, errW_some] <;> rfl) | (simp [*, errW_none, errW_some] <;> rfl), by first | exact Kd.R_nil _ _ _ _ _ | exact Kd.N_nil _ _ _ _ _ | exact Kd.V_nil _ _ _ _ _ | exact Kd.Q_nil _ _ _ _ _ | exact Kd.S_nil _ _ _ _ _, bl1 HB.out GE344.out⟩

/-! ### impl_isNumber: function 105 -/
def impl_isNumber.f (a0 : Int) : Option (Bool) := (impl_in.f a0 (-1000000000000) 1000000000000).bind fun t351 => (some t351)
set_option maxHeartbeats 80000000 in
set_option maxRecDepth 100000 in
theorem impl_isNumber.calls (a0 : Int) (r : Bool) (w : World) (h : impl_isNumber.f a0 = some r) :
  Calls Try.prog 105 #[.int .i64 a0] w fun e w' => e = .returned (.bool r) ∧ Drawn0 w w' := by
 have H : ((impl_in.f a0 (-1000000000000) 1000000000000).bind fun t351 => (some t351)) = some r := h
 clear h
 replace H := Option.bind_eq_some_iff.mp H
 obtain ⟨t351, A20, H⟩ := H
 (try dsimp only at H)
 have A2 := Aside0.mk A20
 clear A20
 obtain rfl := Option.some.inj H
 go_enter Try.func105, Try.ntmps105
 go_wp2_with (first | ((with_reducible refine gate_callee (f := 111) rfl ?_); refine goesLS_ (some 4) Try.func111 #[.int .i64 a0, .int .i64 (-1000000000000), .int .i64 1000000000000] ?_; (with_reducible refine (impl_in.calls a0 (-1000000000000) 1000000000000 t351 _ A2.out).mono ?_); rintro e w' ⟨rfl, ⟨nd, rfl⟩⟩; refine ⟨_, rfl, ?_⟩))
 go_ret
 exact ⟨by first | rfl | (simp; done) | (simp [*]; done), by repeat (first | exact Drawn0.refl _ | apply Drawn0.step)⟩

/-! ### impl_exact: function 89 -/
/-- all is kept but the blocks of B, and what is new -/
structure KB (B : Nat → Prop) (w W : World) : Prop where
  os : W.os = w.os
  tape : W.tape = w.tape
  output : W.output = w.output
  size : w.heap.size ≤ W.heap.size
  block : ∀ i, i < w.heap.size → ¬ B i → W.heap[i]? = w.heap[i]?
theorem KB.refl (B : Nat → Prop) (w : World) : KB B w w := ⟨rfl, rfl, rfl, Nat.le_refl _, fun _ _ _ => rfl⟩
theorem KB.of_below {B : Nat → Prop} {w W : World} (h : Below w.heap.size w W) : KB B w W := ⟨h.os, h.tape, h.output, h.size, fun i hi _ => h.block i hi⟩
theorem KB.trans {B : Nat → Prop} {w W V : World} (h : KB B w W) (k : KB B W V) : KB B w V :=
  ⟨k.os.trans h.os, k.tape.trans h.tape, k.output.trans h.output, Nat.le_trans h.size k.size, fun i hi hb => (k.block i (Nat.lt_of_lt_of_le hi h.size) hb).trans (h.block i hi hb)⟩
theorem KB.below_of {B : Nat → Prop} {w W V : World} (h : Below w.heap.size w W) (k : KB B W V) (hB : ∀ i, B i → w.heap.size ≤ i) : Below w.heap.size w V :=
  ⟨k.os.trans h.os, k.tape.trans h.tape, k.output.trans h.output, Nat.le_trans h.size k.size, fun i hi => (k.block i (Nat.lt_of_lt_of_le hi h.size) (fun hb => by have := hB i hb; omega)).trans (h.block i hi)⟩
theorem KB.step {B : Nat → Prop} {w W V : World} (h : KB B w W) (hb : Below w.heap.size W V) : KB B w V :=
  ⟨hb.os.trans h.os, hb.tape.trans h.tape, hb.output.trans h.output, Nat.le_trans h.size hb.size, fun i hi hn => (hb.block i hi).trans (h.block i hi hn)⟩
theorem KB.kept {B : Nat → Prop} {w W : World} (h : KB B w W) : Kept w W B := ⟨h.size, h.block⟩
theorem below_of_drawn {W V : World} (n : Nat) (h : Drawn0 W V) : Below n W V := by
  obtain ⟨m, rfl⟩ := h.out
  exact ⟨rfl, rfl, rfl, Nat.le_refl _, fun _ _ => rfl⟩
/-- what 'exact' comes to: N tells what the state and the last numbers add, T takes a number -/
def impl_exact.l0 {σ : Type} (N : σ → Int → Option Int) (T : σ → Int → σ) : Nat → Int → List Int → Int → List Int → Int → Int → σ → Option (List Int × Bool)
 | 0, _, _, _, _, _, _, _ => none
 | k + 1, x1, x10, x11, x16, x17, x18, st => if x18 < x17 then (if 0 ≤ x18 then (if x18 < (x16.length : Int) then (if 0 ≤ x1 then ((N st x18).bind fun n => ((impl_isNumber.f (shl .i64 x11 x1)).bind fun b1 => (if b1 = true then ((impl_isNumber.f (wrap64 (n + wrap64 (rd x16 x18 * shl .i64 x11 x1)))).bind fun b2 => (if b2 = true then (if x10.length < 17592186044416 then impl_exact.l0 N T k x1 (x10 ++ [wrap64 (n + wrap64 (rd x16 x18 * shl .i64 x11 x1))]) (shl .i64 x11 x1) x16 x17 (wrap64 (x18 + 1)) (T st (wrap64 (n + wrap64 (rd x16 x18 * shl .i64 x11 x1)))) else none) else some ([], false))) else some ([], false)))) else none) else none) else none) else some (x10, true)
set_option maxHeartbeats 8000000 in
set_option maxRecDepth 100000 in
theorem impl_exact.calls {σ : Type} (N : σ → Int → Option Int) (T : σ → Int → σ) (Inv : σ → World → Prop) (B : Nat → Prop) (gN gT : Nat) (lbN lbT : Array Value) (k : Nat) (A0 : Option Addr) (c0 : Nat) (l0 : List Int) (a1 : Int) (st0 : σ) (r1 : List Int) (r2 : Bool) (w : World)
    (egN : ∀ args w, (callFunc gN args).run Try.prog w = .ok (.enter gN args) w) (egT : ∀ args w, (callFunc gT args).run Try.prog w = .ok (.enter gT args) w)
    (hB : ∀ i, B i → i < w.heap.size) (hI : Inv st0 w)
    (hS : ∀ st W V, Inv st W → Below w.heap.size W V → Inv st V)
    (hN : ∀ st W n r, Inv st W → N st n = some r → Calls Try.prog gN (#[.int .i64 n] ++ lbN) W fun e w' => e = .returned (.int .i64 r) ∧ Drawn0 W w')
    (hT : ∀ st W y, Inv st W → Calls Try.prog gT (#[.int .i64 y] ++ lbT) W fun e w' => e = .returned (.tuple #[]) ∧ Inv (T st y) w' ∧ KB B W w')
    (hC : ∀ W, KB B w W → Kd.C (Kd.int .i64) W A0 l0.length l0) (hc0 : l0.length ≤ c0)
    (h : impl_exact.l0 N T k a1 [] 1 l0 l0.length 0 st0 = some (r1, r2)) :
    Calls Try.prog 89 #[.slice A0 l0.length c0, .int .i64 a1, .func (.func gN) #[] lbN, .func (.func gT) #[] lbT] w fun e w' => ∃ v0_ : Value, e = .returned (.tuple #[v0_, .bool r2]) ∧ Kd.R (Kd.int .i64) 3 w' w.heap.size (fun _ => True) v0_ r1 ∧ KB B w w' := by
  have HI := Aside0.mk hI
  have HB := Aside0.mk hB
  have HS := Aside0.mk hS
  have HN := Aside0.mk hN
  have HT := Aside0.mk hT
  have HC := Aside0.mk hC
  have HC0 := Aside0.mk hc0
  have HK := Aside0.mk (KB.refl B w)
  have H' := Aside0.mk h
  clear hB hI hS hN hT hC hc0 h
  go_enter Try.func89, Try.ntmps89
  go_wp2_with ((with_reducible refine gate_dst (N := 15) rfl ?_); refine Kd.R_lit (Kd.int .i64) _ 3 ?hg (N := 15) ?hd (xs := ([] : List Int)) (inner := []) (ok := fun i => w.heap.size ≤ i) (okp := fun i => w.heap.size ≤ i) ?hr ?hp (fun _ hk => hk) (Nat.le_refl _) (Below.refl _ _) (Nat.le_refl _) (by simp) ?_; (case hd => rfl); (case hg => rfl); (case hr => first | (go_simp; done) | (go_simp; rfl)); (case hp => exact (Reps.none _ _)); intro v5 w5 ho6 hb hg_ hnew_; clear hg_ hnew_; have HO := Aside0.mk ho6; have HK1 := Aside0.mk (HK.out.step hb); have HI1 := Aside0.mk (HS.out _ _ _ HI.out hb); clear HK HI; have HK := HK1; have HI := HI1; clear HK1 HI1 hb ho6)
  go_loopg [10, 11, 18] k (fun kq v10 v11 v18 w' => ∃ (x10 : List Int) (x11 x18 : Int) (st : σ), v11 = .int .i64 x11 ∧ v18 = .int .i64 x18 ∧ Aside0 (impl_exact.l0 N T kq a1 x10 x11 l0 l0.length x18 st = some (r1, r2)) ∧ Aside0 (kq ≤ k) ∧ Aside0 (Kd.R (Kd.int .i64) 3 w' w.heap.size (fun i => w.heap.size ≤ i) v10 x10) ∧ Aside0 (KB B w w') ∧ Aside0 (Inv st w'))
  case atStart => exact ⟨[], 1, 0, st0, rfl, rfl, H', ⟨Nat.le_refl _⟩, HO, HK, HI⟩
  case round =>
    clear H' HI HK HO
    obtain ⟨x10, x11, x18, st, rfl, rfl, HA, HK2, HO, HK, HI⟩ := hrel
    cases gk with
    | zero => exact absurd HA.out (by simp [impl_exact.l0])
    | succ k2 =>
      have H := HA.out
      clear HA
      simp only [impl_exact.l0] at H
      by_cases c1 : x18 < (l0.length : Int)
      · rw [if_pos c1] at H
        have c1b : decide (x18 < (l0.length : Int)) = true := decide_eq_true c1
        by_cases c2 : 0 ≤ x18
        · rw [if_pos c2, if_pos c1] at H
          by_cases c3 : 0 ≤ a1
          · rw [if_pos c3] at H
            have c3b0 := eq_true c3
            have c3b1 : decide (0 ≤ a1) = true := decide_eq_true c3
            replace H := Option.bind_eq_some_iff.mp H
            obtain ⟨n, A1, H⟩ := H
            replace H := Option.bind_eq_some_iff.mp H
            obtain ⟨b1, A2, H⟩ := H
            obtain ⟨ad, e, hx⟩ := Kd.at_int (HC.out _ HK.out) x18 c2 c1
            subst e
            have p1 := eq_true c2
            have q1 := eq_true c1
            have q2 : decide (0 ≤ x18) = true := decide_eq_true c2
            clear c1 c2 c3
            generalize hsc : shl .i64 x11 a1 = sc at H A2
            have hsc1 : (IntKind.i64.wrap (x11 * 2 ^ min a1.toNat 64)) = sc := hsc
            have hsc2 : (wrap64 (x11 * 2 ^ min a1.toNat 64)) = sc := (i64_w _).symm.trans hsc1
            have hsc3 : a1 ≤ 64 → (wrap64 (x11 * 2 ^ a1.toNat)) = sc := fun h_ => (i64_w _).symm.trans (shl_small hsc h_)
            have hcN := HN.out st wr x18 n HI.out A1
            have HN1 := Aside0.mk hcN
            have HA2 := Aside0.mk A2
            have H1 := Aside0.mk H
            clear hcN A1 A2 H hsc hsc1
            go_wp2_with (fail)
            refine HN1.out.mono ?_
            rintro e w1 ⟨rfl, hd⟩
            have hb1 := below_of_drawn wr.heap.size hd
            have n1_ := Aside0.mk (Kd.R_below HO.out hb1)
            have n2_ := Aside0.mk (HK.out.step (below_of_drawn w.heap.size hd))
            have n3_ := Aside0.mk (HS.out _ _ _ HI.out (below_of_drawn w.heap.size hd))
            clear HO HK HI hd hb1 HN1
            have HO := n1_
            have HK := n2_
            have HI := n3_
            clear n1_ n2_ n3_
            cases b1 with
            | false =>
              have H := H1.out
              rw [if_neg (by simp)] at H
              obtain ⟨rfl, rfl⟩ := Prod.mk.inj (Option.some.inj H)
              clear H H1
              go_wp2_with (go_at_call 105; refine (impl_isNumber.calls sc false _ HA2.out).mono ?_; rintro e w2 ⟨rfl, hd2⟩; have HD := Aside0.mk (below_of_drawn w.heap.size hd2); clear hd2)
              go_ret2
              exact ⟨_, rfl, Kd.R_nil _ _ _ _ _, HK.out.step HD.out⟩
            | true =>
              have H := H1.out
              rw [if_pos rfl] at H
              replace H := Option.bind_eq_some_iff.mp H
              obtain ⟨b2, A3, H⟩ := H
              have HA3 := Aside0.mk A3
              clear A3 H1
              cases b2 with
              | false =>
                rw [if_neg (by simp)] at H
                obtain ⟨rfl, rfl⟩ := Prod.mk.inj (Option.some.inj H)
                clear H
                go_wp2_with (first | (go_at_call 105; first | (refine (impl_isNumber.calls sc true _ HA2.out).mono ?_; rintro e w2 ⟨rfl, hd2⟩; have HD := Aside0.mk (below_of_drawn w.heap.size hd2); clear hd2 HA2) | (refine (impl_isNumber.calls _ false _ HA3.out).mono ?_; rintro e w3 ⟨rfl, hd3⟩; have HD3 := Aside0.mk (below_of_drawn w.heap.size hd3); clear hd3 HA3)))
                go_ret2
                exact ⟨_, rfl, Kd.R_nil _ _ _ _ _, (HK.out.step HD.out).step HD3.out⟩
              | true =>
                rw [if_pos rfl] at H
                generalize hy : wrap64 (n + wrap64 (rd l0 x18 * sc)) = y at H HA3
                by_cases c4 : x10.length < 17592186044416
                · rw [if_pos c4] at H
                  have LM := Aside0.mk c4
                  have H' := Aside0.mk H
                  clear H c4
                  obtain ⟨yl, hyl⟩ : ∃ y_ : List Int, y_ = x10 ++ [y] := ⟨_, rfl⟩
                  rw [← hyl] at H'
                  have NY := Aside0.mk hyl
                  clear hyl
                  go_wp2_with (first | (go_at_call 105; first | (refine (impl_isNumber.calls sc true _ HA2.out).mono ?_; rintro e w2 ⟨rfl, hd2⟩; have HD := Aside0.mk hd2; have n1_ := Aside0.mk (Kd.R_below HO.out (below_of_drawn _ hd2)); have n2_ := Aside0.mk (HK.out.step (below_of_drawn w.heap.size hd2)); have n3_ := Aside0.mk (HS.out _ _ _ HI.out (below_of_drawn w.heap.size hd2)); clear HO HK HI; have HO := n1_; have HK := n2_; have HI := n3_; clear n1_ n2_ n3_ hd2 HA2 HD) | (refine (impl_isNumber.calls y true _ HA3.out).mono ?_; rintro e w3 ⟨rfl, hd2⟩; have n1_ := Aside0.mk (Kd.R_below HO.out (below_of_drawn _ hd2)); have n2_ := Aside0.mk (HK.out.step (below_of_drawn w.heap.size hd2)); have n3_ := Aside0.mk (HS.out _ _ _ HI.out (below_of_drawn w.heap.size hd2)); clear HO HK HI; have HO := n1_; have HK := n2_; have HI := n3_; clear n1_ n2_ n3_ hd2 HA3)) | ((with_reducible refine gate_builtin (b := .append) (xs := #[.tmp 41, .tmp 43]) rfl ?_); at_builtin; refine Kd.R_append (Kd.int .i64) (w0 := w3) w.heap.size rfl (.tmp 41) (.tmp 43) 28 3 (.int .i64 0) 8 rfl Try.underlying28 info3 rfl (by decide) (by omega) u10 x10 y [.int .i64 y] (fun i => w.heap.size ≤ i) (fun _ => False) rfl rfl ?aP (fun _ hk => hk.elim) ?aF ?aO ?aB ?aS ?aL ?_; (case aP => exact rfl); (case aB => exact Below.refl _ _); (case aF => exact (fun _ hk => Nat.le_trans HK.out.size hk)); (case aO => exact HO.out); (case aS => exact HK.out.size); (case aL => have := LM.out; omega); intro v5 w5 ho hb hg hat; rw [← NY.out] at ho; have n1_ := Aside0.mk ho; have n2_ := Aside0.mk (HK.out.step hb); have n3_ := Aside0.mk (HS.out _ _ _ HI.out hb); clear HO HK HI; have HO := n1_; have HK := n2_; have HI := n3_; clear n1_ n2_ n3_; clear ho hb hg hat))
                  refine (HT.out st w5 y HI.out).mono ?_
                  rintro e w6 ⟨rfl, hi, hk⟩
                  have n1_ := Aside0.mk (Kd.R_kept HO.out hk.kept (fun i h1 h2 => by have := HB.out i h2; omega))
                  have n2_ := Aside0.mk (HK.out.trans hk)
                  have n3_ := Aside0.mk hi
                  clear HO HK HI hk hi
                  have HO := n1_
                  have HK := n2_
                  have HI := n3_
                  clear n1_ n2_ n3_
                  go_wp2
                  go_roundg k2
                  case measure => have := HK2.out; omega
                  case rel => exact ⟨yl, sc, wrap64 (x18 + 1), T st y, rfl, rfl, H', ⟨by have := HK2.out; omega⟩, HO, HK, HI⟩
                · rw [if_neg c4] at H; exact absurd H (by simp)
          · rw [if_neg c3] at H; exact absurd H (by simp)
        · rw [if_neg c2] at H; exact absurd H (by simp)
      · rw [if_neg c1] at H
        have c1b : decide (x18 < (l0.length : Int)) = false := decide_eq_false c1
        obtain ⟨rfl, rfl⟩ := Prod.mk.inj (Option.some.inj H)
        clear H c1
        go_wp2
        go_ret2
        exact ⟨_, rfl, Kd.R_mono HO.out (fun _ _ => trivial), HK.out⟩


/-! ### impl_ExactFirst: function 11 -/
theorem exf_next (a0 a1 a2 a3 : Int) (a4 : Bool) (gf gy : Nat) (y n : Int) (W : World) (hf : W.heap[gf]? = some (.cells #[.int .i64 a0, .int .i64 a1, .int .i64 a2, .int .i64 a3, .bool a4] 27 (0, 0))) (hy : W.heap[gy]? = some (.cells #[.int .i64 y] 3 (0, 0))) :
    Calls Try.prog 90 #[.int .i64 n, .pointer (some ⟨gf, 0, none⟩), .pointer (some ⟨gy, 0, none⟩)] W fun e w' => e = .returned (.int .i64 (wrap64 (a0 * y))) ∧ Drawn0 W w' := by
  have c0 : W.cell? ⟨gf, 0, none⟩ = some (.int .i64 a0) := (blk_cell hf 0).trans rfl
  have c1 : W.cell? ⟨gy, 0, none⟩ = some (.int .i64 y) := (blk_cell hy 0).trans rfl
  clear hf hy
  go_enter Try.func90, Try.ntmps90
  go_wp2
  go_ret
  exact ⟨rfl, Drawn0.refl _⟩
theorem exf_take (gy : Nat) (y n : Int) (W : World) (hy : W.heap[gy]? = some (.cells #[.int .i64 y] 3 (0, 0))) :
    Calls Try.prog 91 #[.int .i64 n, .pointer (some ⟨gy, 0, none⟩)] W fun e w' => e = .returned (.tuple #[]) ∧ w' = W.setCell ⟨gy, 0, none⟩ (.int .i64 n) := by
  have c1 : W.cell? ⟨gy, 0, none⟩ = some (.int .i64 y) := (blk_cell hy 0).trans rfl
  have c2 := blk_frozen hy 0
  clear hy
  go_enter Try.func91, Try.ntmps91
  go_wp2
  go_end0
  exact ⟨rfl, rfl⟩

/-- the numbers ahead of a step, and the step -/
def exfN (a0 : Int) (y n : Int) : Option Int := some (wrap64 (a0 * y))
def exfT (y n : Int) : Int := n
def impl_ExactFirst.f (k : Nat) (a0 : Int) (a1 : Int) (a2 : Int) (a3 : Int) (a4 : Bool) (y : Int) (l0 : List Int) : Option (List Int × Bool) := (impl_First_isAt.f a0 a1 a2 a3 a4 y).bind fun b1 => (if b1 = true then (impl_isSignal.f l0).bind fun b2 => (if b2 = true then impl_exact.l0 (exfN a0) exfT k a1 [] 1 l0 l0.length 0 y else some ([], false)) else some ([], false))
set_option maxHeartbeats 8000000 in
theorem impl_ExactFirst.calls (k : Nat) (a0 : Int) (a1 : Int) (a2 : Int) (a3 : Int) (a4 : Bool) (y : Int) (A0 : Option Addr) (c0 : Nat) (l0 : List Int) (r1 : List Int) (r2 : Bool) (w : World) (hr0 : Kd.C (Kd.int .i64) w A0 l0.length l0) (hc0 : l0.length ≤ c0) (h : impl_ExactFirst.f k a0 a1 a2 a3 a4 y l0 = some (r1, r2)) :
    Calls Try.prog 11 #[.agg #[.int .i64 a0, .int .i64 a1, .int .i64 a2, .int .i64 a3, .bool a4], .int .i64 y, .slice A0 l0.length c0] w fun e w' => ∃ v0_ : Value, e = .returned (.tuple #[v0_, .bool r2]) ∧ Kd.R (Kd.int .i64) 3 w' w.heap.size (fun _ => True) v0_ r1 ∧ Below w.heap.size w w' := by
  have HR := Aside0.mk hr0
  have HC := Aside0.mk hc0
  have HB := Aside0.mk (Below.refl w.heap.size w)
  have H : _ = _ := h
  clear hr0 hc0 h
  unfold impl_ExactFirst.f at H
  replace H := Option.bind_eq_some_iff.mp H
  obtain ⟨b1, e1, H⟩ := H
  have E1 := Aside0.mk e1
  clear e1
  have hu := Try.underlying27
  cases b1 with
  | false =>
    rw [if_neg (by simp)] at H
    obtain ⟨rfl, rfl⟩ := Prod.mk.inj (Option.some.inj H)
    clear H
    go_enter Try.func11, Try.ntmps11
    go_wp2_with (first | ((with_reducible refine gate_dst (N := 3) rfl ?_); refine box_event ?hg (N := 3) ?hd (cs := #[.int .i64 a0, .int .i64 a1, .int .i64 a2, .int .i64 a3, .bool a4]) (t := 27) ?hr ?_; (case hd => rfl); (case hg => rfl); (case hr => first | (go_simp; done) | (go_simp; rfl)); intro gf hg w9 hbox hb; have n1_ := Aside0.mk hbox; have n2_ := Aside0.mk (below_step HB.out hb); have n3_ := Aside0.mk (by rw [hg]; exact HB.out.size : w.heap.size ≤ gf); clear HB; have BF := n1_; have HB := n2_; have GF := n3_; clear n1_ n2_ n3_; clear hbox hb hg) | ((with_reducible refine gate_dst (N := 4) rfl ?_); refine box_event ?hg (N := 4) ?hd (cs := #[.int .i64 y]) (t := 3) ?hr ?_; (case hd => rfl); (case hg => rfl); (case hr => first | (go_simp; done) | (go_simp; rfl)); intro gy hg w9 hbox hb; have n1_ := Aside0.mk hbox; have n2_ := Aside0.mk (below_step HB.out hb); have n3_ := Aside0.mk (by rw [hg]; exact HB.out.size : w.heap.size ≤ gy); have n4_ := Aside0.mk (blk_below BF.out hb); have n5_ := Aside0.mk (by rw [hg]; exact Nat.ne_of_lt (blk_lt BF.out) : gf ≠ gy); clear HB BF; have BY := n1_; have HB := n2_; have GY := n3_; have BF := n4_; have NE := n5_; clear n1_ n2_ n3_ n4_ n5_; have cz0 : w9.cell? ⟨gf, 0, none⟩ = some (.int .i64 a0) := (blk_cell BF.out 0).trans rfl; have cz1 : w9.cell? ⟨gf, 1, none⟩ = some (.int .i64 a1) := (blk_cell BF.out 1).trans rfl; have cz2 : w9.cell? ⟨gf, 2, none⟩ = some (.int .i64 a2) := (blk_cell BF.out 2).trans rfl; have cz3 : w9.cell? ⟨gf, 3, none⟩ = some (.int .i64 a3) := (blk_cell BF.out 3).trans rfl; have cz4 : w9.cell? ⟨gf, 4, none⟩ = some (.bool a4) := (blk_cell BF.out 4).trans rfl; have cz5 : w9.cell? ⟨gy, 0, none⟩ = some (.int .i64 y) := (blk_cell BY.out 0).trans rfl; clear hbox hb hg) | (go_at_call 83; refine (impl_First_isAt.calls a0 a1 a2 a3 a4 y false _ E1.out).mono ?_; rintro e v1 ⟨rfl, hb⟩; clear cz0 cz1 cz2 cz3 cz4 cz5; have n1_ := Aside0.mk (blk_below BF.out hb); have n2_ := Aside0.mk (blk_below BY.out hb); have n3_ := Aside0.mk (below_step HB.out hb); clear HB BF BY hb; have BF := n1_; have BY := n2_; have HB := n3_; clear n1_ n2_ n3_))
    go_ret2
    exact ⟨_, rfl, Kd.R_nil _ _ _ _ _, HB.out⟩
  | true =>
    rw [if_pos rfl] at H
    replace H := Option.bind_eq_some_iff.mp H
    obtain ⟨b2, e2, H⟩ := H
    have E2 := Aside0.mk e2
    clear e2
    cases b2 with
    | false =>
      rw [if_neg (by simp)] at H
      obtain ⟨rfl, rfl⟩ := Prod.mk.inj (Option.some.inj H)
      clear H
      go_enter Try.func11, Try.ntmps11
      go_wp2_with (first | ((with_reducible refine gate_dst (N := 3) rfl ?_); refine box_event ?hg (N := 3) ?hd (cs := #[.int .i64 a0, .int .i64 a1, .int .i64 a2, .int .i64 a3, .bool a4]) (t := 27) ?hr ?_; (case hd => rfl); (case hg => rfl); (case hr => first | (go_simp; done) | (go_simp; rfl)); intro gf hg w9 hbox hb; have n1_ := Aside0.mk hbox; have n2_ := Aside0.mk (below_step HB.out hb); have n3_ := Aside0.mk (by rw [hg]; exact HB.out.size : w.heap.size ≤ gf); clear HB; have BF := n1_; have HB := n2_; have GF := n3_; clear n1_ n2_ n3_; clear hbox hb hg) | ((with_reducible refine gate_dst (N := 4) rfl ?_); refine box_event ?hg (N := 4) ?hd (cs := #[.int .i64 y]) (t := 3) ?hr ?_; (case hd => rfl); (case hg => rfl); (case hr => first | (go_simp; done) | (go_simp; rfl)); intro gy hg w9 hbox hb; have n1_ := Aside0.mk hbox; have n2_ := Aside0.mk (below_step HB.out hb); have n3_ := Aside0.mk (by rw [hg]; exact HB.out.size : w.heap.size ≤ gy); have n4_ := Aside0.mk (blk_below BF.out hb); have n5_ := Aside0.mk (by rw [hg]; exact Nat.ne_of_lt (blk_lt BF.out) : gf ≠ gy); clear HB BF; have BY := n1_; have HB := n2_; have GY := n3_; have BF := n4_; have NE := n5_; clear n1_ n2_ n3_ n4_ n5_; have cz0 : w9.cell? ⟨gf, 0, none⟩ = some (.int .i64 a0) := (blk_cell BF.out 0).trans rfl; have cz1 : w9.cell? ⟨gf, 1, none⟩ = some (.int .i64 a1) := (blk_cell BF.out 1).trans rfl; have cz2 : w9.cell? ⟨gf, 2, none⟩ = some (.int .i64 a2) := (blk_cell BF.out 2).trans rfl; have cz3 : w9.cell? ⟨gf, 3, none⟩ = some (.int .i64 a3) := (blk_cell BF.out 3).trans rfl; have cz4 : w9.cell? ⟨gf, 4, none⟩ = some (.bool a4) := (blk_cell BF.out 4).trans rfl; have cz5 : w9.cell? ⟨gy, 0, none⟩ = some (.int .i64 y) := (blk_cell BY.out 0).trans rfl; clear hbox hb hg) | (go_at_call 83; refine (impl_First_isAt.calls a0 a1 a2 a3 a4 y true _ E1.out).mono ?_; rintro e v1 ⟨rfl, hb⟩; clear cz0 cz1 cz2 cz3 cz4 cz5; have n1_ := Aside0.mk (blk_below BF.out hb); have n2_ := Aside0.mk (blk_below BY.out hb); have n3_ := Aside0.mk (below_step HB.out hb); clear HB BF BY hb; have BF := n1_; have BY := n2_; have HB := n3_; clear n1_ n2_ n3_) | (go_at_call 84; refine (impl_isSignal.calls A0 c0 l0 false _ (Kd.C_below HR.out HB.out) HC.out E2.out).mono ?_; rintro e v2 ⟨rfl, hb⟩; have n1_ := Aside0.mk (blk_below BF.out hb); have n2_ := Aside0.mk (blk_below BY.out hb); have n3_ := Aside0.mk (below_step HB.out hb); clear HB BF BY hb; have BF := n1_; have BY := n2_; have HB := n3_; clear n1_ n2_ n3_))
      go_ret2
      exact ⟨_, rfl, Kd.R_nil _ _ _ _ _, HB.out⟩
    | true =>
      rw [if_pos rfl] at H
      have H' := Aside0.mk H
      clear H
      go_enter Try.func11, Try.ntmps11
      go_upto_region 3 with (first | ((with_reducible refine gate_dst (N := 3) rfl ?_); refine box_event ?hg (N := 3) ?hd (cs := #[.int .i64 a0, .int .i64 a1, .int .i64 a2, .int .i64 a3, .bool a4]) (t := 27) ?hr ?_; (case hd => rfl); (case hg => rfl); (case hr => first | (go_simp; done) | (go_simp; rfl)); intro gf hg w9 hbox hb; have n1_ := Aside0.mk hbox; have n2_ := Aside0.mk (below_step HB.out hb); have n3_ := Aside0.mk (by rw [hg]; exact HB.out.size : w.heap.size ≤ gf); clear HB; have BF := n1_; have HB := n2_; have GF := n3_; clear n1_ n2_ n3_; clear hbox hb hg) | ((with_reducible refine gate_dst (N := 4) rfl ?_); refine box_event ?hg (N := 4) ?hd (cs := #[.int .i64 y]) (t := 3) ?hr ?_; (case hd => rfl); (case hg => rfl); (case hr => first | (go_simp; done) | (go_simp; rfl)); intro gy hg w9 hbox hb; have n1_ := Aside0.mk hbox; have n2_ := Aside0.mk (below_step HB.out hb); have n3_ := Aside0.mk (by rw [hg]; exact HB.out.size : w.heap.size ≤ gy); have n4_ := Aside0.mk (blk_below BF.out hb); have n5_ := Aside0.mk (by rw [hg]; exact Nat.ne_of_lt (blk_lt BF.out) : gf ≠ gy); clear HB BF; have BY := n1_; have HB := n2_; have GY := n3_; have BF := n4_; have NE := n5_; clear n1_ n2_ n3_ n4_ n5_; have cz0 : w9.cell? ⟨gf, 0, none⟩ = some (.int .i64 a0) := (blk_cell BF.out 0).trans rfl; have cz1 : w9.cell? ⟨gf, 1, none⟩ = some (.int .i64 a1) := (blk_cell BF.out 1).trans rfl; have cz2 : w9.cell? ⟨gf, 2, none⟩ = some (.int .i64 a2) := (blk_cell BF.out 2).trans rfl; have cz3 : w9.cell? ⟨gf, 3, none⟩ = some (.int .i64 a3) := (blk_cell BF.out 3).trans rfl; have cz4 : w9.cell? ⟨gf, 4, none⟩ = some (.bool a4) := (blk_cell BF.out 4).trans rfl; have cz5 : w9.cell? ⟨gy, 0, none⟩ = some (.int .i64 y) := (blk_cell BY.out 0).trans rfl; clear hbox hb hg) | (go_at_call 83; refine (impl_First_isAt.calls a0 a1 a2 a3 a4 y true _ E1.out).mono ?_; rintro e v1 ⟨rfl, hb⟩; clear cz0 cz1 cz2 cz3 cz4 cz5; have n1_ := Aside0.mk (blk_below BF.out hb); have n2_ := Aside0.mk (blk_below BY.out hb); have n3_ := Aside0.mk (below_step HB.out hb); clear HB BF BY hb; have BF := n1_; have BY := n2_; have HB := n3_; clear n1_ n2_ n3_) | (go_at_call 84; refine (impl_isSignal.calls A0 c0 l0 true _ (Kd.C_below HR.out HB.out) HC.out E2.out).mono ?_; rintro e v2 ⟨rfl, hb⟩; have n1_ := Aside0.mk (blk_below BF.out hb); have n2_ := Aside0.mk (blk_below BY.out hb); have n3_ := Aside0.mk (below_step HB.out hb); clear HB BF BY hb; have BF := n1_; have BY := n2_; have HB := n3_; clear n1_ n2_ n3_; have cz1 : v2.cell? ⟨gf, 1, none⟩ = some (.int .i64 a1) := (blk_cell BF.out 1).trans rfl))
      go_wp2_with (fail)
      refine (impl_exact.calls (exfN a0) exfT (fun st W => W.heap[gf]? = some (.cells #[.int .i64 a0, .int .i64 a1, .int .i64 a2, .int .i64 a3, .bool a4] 27 (0, 0)) ∧ W.heap[gy]? = some (.cells #[.int .i64 st] 3 (0, 0))) (fun i => i = gy) 90 91 #[.pointer (some ⟨gf, 0, none⟩), .pointer (some ⟨gy, 0, none⟩)] #[.pointer (some ⟨gy, 0, none⟩)] k A0 c0 l0 a1 y r1 r2 v2
        (enters_ Try.func90 (by kernel_rfl) rfl) (enters_ Try.func91 (by kernel_rfl) rfl)
        (fun i hi => by subst hi; exact blk_lt BY.out) ⟨BF.out, BY.out⟩
        (fun st W V hW hb => ⟨(hb.block _ (blk_lt BF.out)).trans hW.1, (hb.block _ (blk_lt BY.out)).trans hW.2⟩)
        (fun st W n r hW hn => by obtain rfl := Option.some.inj hn; exact exf_next a0 a1 a2 a3 a4 gf gy st n W hW.1 hW.2)
        (fun st W n hW => (exf_take gy st n W hW.2).mono (by
          rintro e w' ⟨rfl, rfl⟩
          refine ⟨rfl, ⟨?_, blk_put hW.2 0 _ rfl⟩, ⟨rfl, rfl, rfl, ?_, fun i hi hn => ?_⟩⟩
          · exact (Below.heap_setCell W ⟨gy, 0, none⟩ (.int .i64 n) gf NE.out).trans hW.1
          · simp [World.setCell]
          · exact Below.heap_setCell W ⟨gy, 0, none⟩ (.int .i64 n) i hn))
        (fun W hk => Kd.C_below HR.out (KB.below_of HB.out hk (fun i hi => by subst hi; exact GY.out))) HC.out H'.out).mono ?_
      rintro e v3 ⟨v, rfl, hv, hk⟩
      have n1_ := Aside0.mk (KB.below_of HB.out hk (fun i hi => by subst hi; exact GY.out))
      have n2_ := Aside0.mk (Kd.R_lower hv HB.out.size)
      clear hv hk
      go_wp2
      go_ret2
      exact ⟨v, rfl, n2_.out, n1_.out⟩

/-! ### spec_wdNumber: function 137 -/
def spec_wdNumber.f (a0 : Int) : Option (Bool) := (spec_l1In.f a0 (-1000000000000) 1000000000000).bind fun t352 => (some t352)
set_option maxHeartbeats 80000000 in
set_option maxRecDepth 100000 in
theorem spec_wdNumber.calls (a0 : Int) (r : Bool) (w : World) (h : spec_wdNumber.f a0 = some r) :
  Calls Try.prog 137 #[.int .i64 a0] w fun e w' => e = .returned (.bool r) ∧ Drawn0 w w' := by
 have H : ((spec_l1In.f a0 (-1000000000000) 1000000000000).bind fun t352 => (some t352)) = some r := h
 clear h
 replace H := Option.bind_eq_some_iff.mp H
 obtain ⟨t352, A20, H⟩ := H
 (try dsimp only at H)
 have A2 := Aside0.mk A20
 clear A20
 obtain rfl := Option.some.inj H
 go_enter Try.func137, Try.ntmps137
 go_wp2_with (first | ((with_reducible refine gate_callee (f := 112) rfl ?_); refine goesLS_ (some 4) Try.func112 #[.int .i64 a0, .int .i64 (-1000000000000), .int .i64 1000000000000] ?_; (with_reducible refine (spec_l1In.calls a0 (-1000000000000) 1000000000000 t352 _ A2.out).mono ?_); rintro e w' ⟨rfl, ⟨nd, rfl⟩⟩; refine ⟨_, rfl, ?_⟩))
 go_ret
 exact ⟨by first | rfl | (simp; done) | (simp [*]; done), by repeat (first | exact Drawn0.refl _ | apply Drawn0.step)⟩

/-! ### spec_foExact: function 92 -/
def spec_foExact.l0 : Nat → Int → List Int → Int → List Int → Int → Int → Int → Int → Int → Int → Bool → Option (List Int × Bool)
 | 0, _, _, _, _, _, _, _, _, _, _, _ => none
 | k + 1, x1, x8, x9, x12, x13, x14, x354000, x354001, x354002, x354003, x354004 => if x14 < x13 then (if 0 ≤ x14 then (if x14 < (x12.length : Int) then (if 0 ≤ x354001 then (if (shl .i64 x9 x354001) > 1000000000000 then (some (([] : List Int), false)) else ((spec_wdNumber.f (wrap64 ((wrap64 (x354000 * x1)) + (wrap64 ((rd x12 x14) * (shl .i64 x9 x354001)))))).bind fun t355 => (if t355 = true then (if x8.length < 17592186044416 then (spec_foExact.l0 k (wrap64 ((wrap64 (x354000 * x1)) + (wrap64 ((rd x12 x14) * (shl .i64 x9 x354001))))) (x8 ++ [wrap64 ((wrap64 (x354000 * x1)) + (wrap64 ((rd x12 x14) * (shl .i64 x9 x354001))))]) (shl .i64 x9 x354001) x12 x13 (wrap64 (x14 + 1)) x354000 x354001 x354002 x354003 x354004) else (none)) else (some (([] : List Int), false))))) else (none)) else (none)) else (none)) else (some (x8, true))
def spec_foExact.f (k : Nat) (a0_0 : Int) (a0_1 : Int) (a0_2 : Int) (a0_3 : Int) (a0_4 : Bool) (a1 : Int) (l2 : List Int) : Option (List Int × Bool) := spec_foExact.l0 k a1 ([] : List Int) 1 l2 (l2.length : Int) 0 a0_0 a0_1 a0_2 a0_3 a0_4

set_option maxHeartbeats 80000000 in
set_option maxRecDepth 100000 in
theorem spec_foExact.calls (k : Nat) (a0_0 : Int) (a0_1 : Int) (a0_2 : Int) (a0_3 : Int) (a0_4 : Bool) (a1 : Int) (A2 : Option Addr) (c2 : Nat) (l2 : List Int) (r1 : List Int) (r2 : Bool) (w : World) (hr2 : Kd.C (Kd.int .i64) w A2 l2.length l2) (hc2 : l2.length ≤ c2) (h : spec_foExact.f k a0_0 a0_1 a0_2 a0_3 a0_4 a1 l2 = some (r1, r2)) :
  Calls Try.prog 92 #[.agg #[.int .i64 a0_0, .int .i64 a0_1, .int .i64 a0_2, .int .i64 a0_3, .bool a0_4], .int .i64 a1, .slice A2 l2.length c2] w fun e w' => ∃ v0_ : Value, e = .returned (.tuple #[v0_, .bool r2]) ∧ Kd.R (Kd.int .i64) 3 w' w.heap.size (fun _ => True) v0_ r1 ∧ Below w.heap.size w w' := by
 have hu27 := Try.underlying27
 have HR2 := Aside0.mk hr2
 have HC2 := Aside0.mk hc2
 clear hr2 hc2
 have HB := Aside0.mk (Below.refl w.heap.size w)
 have H : (spec_foExact.l0 k a1 ([] : List Int) 1 l2 (l2.length : Int) 0 a0_0 a0_1 a0_2 a0_3 a0_4) = some (r1, r2) := h
 clear h
 have H' := Aside0.mk H
 clear H
 go_enter Try.func92, Try.ntmps92
 go_wp2_with (first | ((with_reducible refine gate_dst (N := 3) rfl ?_); refine boxS_ 3 (#[.int .i64 a0_0, .int .i64 a0_1, .int .i64 a0_2, .int .i64 a0_3, .bool a0_4]) 27 ?_; intro gb353 hg w4 hbox hb; have n0_ := Aside0.mk (below_step (bl0 HB.out) hb); have n1_ := Aside0.mk (hbox); have n2_ := Aside0.mk ((by rw [hg]; exact (below_size (bl0 HB.out)) : w.heap.size ≤ gb353)); have n3_ := Aside0.mk ((by rw [hg]; exact (below_size (bl0 HB.out)) : w.heap.size ≤ gb353)); clear HB; have HB := n0_; have BK353 := n1_; have GW353 := n2_; have GE353 := n3_; clear n0_ n1_ n2_ n3_; clear hb hbox hg))
 go_loopg [1, 8, 9, 14] k (fun kq v1 v8 v9 v14 w' => ∃ (x1_1 : Int) (x8_1 : List Int) (x9_1 : Int) (x14_1 : Int), v1 = .int .i64 x1_1 ∧ v9 = .int .i64 x9_1 ∧ v14 = .int .i64 x14_1 ∧ Aside0 (spec_foExact.l0 kq x1_1 x8_1 x9_1 l2 (l2.length : Int) x14_1 a0_0 a0_1 a0_2 a0_3 a0_4 = some (r1, r2)) ∧ Aside0 (kq ≤ k) ∧ Aside0 (Kd.R (Kd.int .i64) 3 w' w.heap.size (fun _ => True) v8 x8_1) ∧ Aside0 (w'.heap[gb353]? = some (.cells #[.int .i64 a0_0, .int .i64 a0_1, .int .i64 a0_2, .int .i64 a0_3, .bool a0_4] 27 (0, 0))) ∧ Aside0 (Below w.heap.size w w'))
 case atStart => exact ⟨(a1), (([] : List Int)), (1), (0), (by first | rfl | (simp; done) | (simp [*]; done)), (by first | rfl | (simp; done) | (simp [*]; done)), (by first | rfl | (simp; done) | (simp [*]; done)), H', ⟨Nat.le_refl _⟩, ⟨by first | exact Kd.R_nil _ _ _ _ _ | exact Kd.N_nil _ _ _ _ _ | exact Kd.V_nil _ _ _ _ _ | exact Kd.Q_nil _ _ _ _ _ | exact Kd.S_nil _ _ _ _ _⟩, ⟨kb BK353.out⟩, ⟨bl1 HB.out GE353.out⟩⟩
 case round =>
  clear H'
  try clear c2
  try clear p2
  obtain ⟨x1_1, x8_1, x9_1, x14_1, rfl, rfl, rfl, HA, HK1, HO_8, BK353, HB⟩ := hrel
  cases gk with
  | zero => exact absurd HA.out (by simp [spec_foExact.l0])
  | succ k1 =>
   have H := HA.out
   clear HA
   simp only [spec_foExact.l0] at H
   by_cases c5 : x14_1 < (l2.length : Int)
   ·rw [if_pos c5] at H
    have c5b0 : decide (x14_1 < (l2.length : Int)) = true := decide_eq_true c5
    clear c5
    by_cases c6 : 0 ≤ x14_1
    ·rw [if_pos c6] at H
     have c6b0 : decide (0 ≤ x14_1) = true := decide_eq_true c6
     clear c6
     by_cases c7 : x14_1 < (l2.length : Int)
     ·rw [if_pos c7] at H
      have c7b0 : decide (x14_1 < (l2.length : Int)) = true := decide_eq_true c7
      clear c7
      by_cases c8 : 0 ≤ a0_1
      ·rw [if_pos c8] at H
       have c8b0 := eq_true c8
       have c8b1 : decide (0 ≤ a0_1) = true := decide_eq_true c8
       clear c8
       obtain ⟨ji9, hji9⟩ : ∃ j_ : Int, (shl .i64 x9_1 a0_1) = j_ := ⟨_, rfl⟩
       replace H : (if (ji9) > 1000000000000 then (some (([] : List Int), false)) else ((spec_wdNumber.f (wrap64 ((wrap64 (a0_0 * x1_1)) + (wrap64 ((rd l2 x14_1) * (ji9)))))).bind fun t355 => (if t355 = true then (if x8_1.length < 17592186044416 then (spec_foExact.l0 k1 (wrap64 ((wrap64 (a0_0 * x1_1)) + (wrap64 ((rd l2 x14_1) * (ji9))))) (x8_1 ++ [wrap64 ((wrap64 (a0_0 * x1_1)) + (wrap64 ((rd l2 x14_1) * (ji9))))]) ji9 l2 (l2.length : Int) (wrap64 (x14_1 + 1)) a0_0 a0_1 a0_2 a0_3 a0_4) else (none)) else (some (([] : List Int), false))))) = some (r1, r2) := by first | (rw [hji9] at H; exact H) | (simp only [hji9] at H ⊢; exact H)
       have hji9_ : (IntKind.i64.wrap (x9_1 * 2 ^ min a0_1.toNat 64)) = ji9 := hji9
       have hji9z : a0_1 ≤ 64 → (IntKind.i64.wrap (x9_1 * 2 ^ a0_1.toNat)) = ji9 := shl_small hji9
       have hji9y : (wrap64 (x9_1 * 2 ^ min a0_1.toNat 64)) = ji9 := (i64_w _).symm.trans hji9_
       have hji9x : a0_1 ≤ 64 → (wrap64 (x9_1 * 2 ^ a0_1.toNat)) = ji9 := fun h_ => (i64_w _).symm.trans (hji9z h_)
       by_cases c10 : (ji9) > 1000000000000
       ·rw [if_pos c10] at H
        have c10b0 : decide (1000000000000 < (ji9)) = true := decide_eq_true c10
        clear c10
        simp only [Option.some.injEq, Prod.mk.injEq] at H
        obtain ⟨rfl, rfl⟩ := H
        have p354 : 0 ≤ (x14_1 : Int) := of_decide_eq_true (by first | (with_reducible assumption) | assumption)
        have q354 : x14_1 < (l2.length : Int) := of_decide_eq_true (by first | (with_reducible assumption) | assumption)
        obtain ⟨ad354, e354, hx354_0⟩ := Kd.at_int HR2.out x14_1 p354 q354
        cases e354
        replace hx354_0 := (HB.out.cell (World.block_lt_of_cell? w _ hx354_0)).trans hx354_0
        replace p354 := eq_true p354
        replace q354 := eq_true q354
        obtain ⟨hcz11_0, hcz11_1, hcz11_2, hcz11_3, hcz11_4, hfz11_0, hfz11_1, hfz11_2, hfz11_3, hfz11_4⟩ := cz5 BK353.out
        go_wp2
        go_ret2
        exact ⟨_, by first | rfl | (simp [errW_none, errW_some] <;> rfl) | (simp only [← hji9]; first | rfl | (simp [errW_none, errW_some] <;> rfl)) | (simp [*, errW_none, errW_some] <;> rfl), by first | exact Kd.R_nil _ _ _ _ _ | exact Kd.N_nil _ _ _ _ _ | exact Kd.V_nil _ _ _ _ _ | exact Kd.Q_nil _ _ _ _ _ | exact Kd.S_nil _ _ _ _ _, bl1 HB.out GE353.out⟩
       ·rw [if_neg c10] at H
        have c10b0 : decide (1000000000000 < (ji9)) = false := decide_eq_false c10
        clear c10
        replace H := Option.bind_eq_some_iff.mp H
        obtain ⟨t355, A120, H⟩ := H
        (try dsimp only at H)
        have A12 := Aside0.mk A120
        clear A120
        by_cases c13 : t355 = true
        ·subst c13
         rw [if_pos rfl] at H
         by_cases c14 : x8_1.length < 17592186044416
         ·rw [if_pos c14] at H
          have LMc14 := Aside0.mk c14
          clear c14
          obtain ⟨y356, hy356⟩ : ∃ y_ : List Int, y_ = (x8_1 ++ [wrap64 ((wrap64 (a0_0 * x1_1)) + (wrap64 ((rd l2 x14_1) * (ji9))))]) := ⟨_, rfl⟩
          replace H : (spec_foExact.l0 k1 (wrap64 ((wrap64 (a0_0 * x1_1)) + (wrap64 ((rd l2 x14_1) * (ji9))))) y356 ji9 l2 (l2.length : Int) (wrap64 (x14_1 + 1)) a0_0 a0_1 a0_2 a0_3 a0_4) = some (r1, r2) := by first | (rw [hy356]; with_reducible exact H) | (have H2_ := (Option.bind_some _ _).symm.trans H; rw [hy356]; with_reducible exact H2_) | (have H2_ := (Option.bind_some _ _).symm.trans H; with_reducible exact H2_) | with_reducible exact H | (rw [hy356]; exact H) | exact H
          have Ny356 := Aside0.mk hy356
          clear hy356
          have H' := Aside0.mk H
          clear H
          have p354 : 0 ≤ (x14_1 : Int) := of_decide_eq_true (by first | (with_reducible assumption) | assumption)
          have q354 : x14_1 < (l2.length : Int) := of_decide_eq_true (by first | (with_reducible assumption) | assumption)
          obtain ⟨ad354, e354, hx354_0⟩ := Kd.at_int HR2.out x14_1 p354 q354
          cases e354
          replace hx354_0 := (HB.out.cell (World.block_lt_of_cell? w _ hx354_0)).trans hx354_0
          replace p354 := eq_true p354
          replace q354 := eq_true q354
          obtain ⟨hcz15_0, hcz15_1, hcz15_2, hcz15_3, hcz15_4, hfz15_0, hfz15_1, hfz15_2, hfz15_3, hfz15_4⟩ := cz5 BK353.out
          go_wp2_with (first | ((with_reducible refine gate_callee (f := 137) rfl ?_); refine goesL_ (some 33) rfl rfl Try.func137 (by kernel_rfl) rfl #[.int .i64 (wrap64 ((wrap64 (a0_0 * x1_1)) + (wrap64 ((rd l2 x14_1) * (ji9)))))] rfl (by (try simp only [List.map_toArray, List.map_cons, List.map_nil]); first | done | (simp only [hji9]; rfl) | rfl | (simp only [List.length_drop, List.length_take]; rfl)) ?_; (with_reducible refine (spec_wdNumber.calls (wrap64 ((wrap64 (a0_0 * x1_1)) + (wrap64 ((rd l2 x14_1) * (ji9))))) true _ A12.out).mono ?_); rintro e w' ⟨rfl, ⟨nd, rfl⟩⟩; refine ⟨_, rfl, ?_⟩) | ((with_reducible refine gate_builtin (b := .append) (xs := #[.tmp 35, .tmp 37]) rfl ?_); at_builtin; refine Kd.R_append (Kd.int .i64) (w0 := w) w.heap.size rfl (.tmp 35) (.tmp 37) 28 3 (.int .i64 0) 8 rfl Try.underlying28 info3 rfl (by decide) (by omega) u8 x8_1 (wrap64 ((wrap64 (a0_0 * x1_1)) + (wrap64 ((rd l2 x14_1) * (ji9))))) [.int .i64 (wrap64 ((wrap64 (a0_0 * x1_1)) + (wrap64 ((rd l2 x14_1) * (ji9)))))] (fun _ => True) (fun _ => False) rfl rfl ?aP (fun _ hk => hk.elim) ?aF ?aO ?aB ?aS ?aL ?_; (case aP => exact rfl); (case aB => exact (bl1 HB.out GE353.out)); (case aF => exact (fun _ _ => trivial)); (case aO => exact (kr HO_8.out)); (case aS => exact (below_size (bl1 HB.out GE353.out))); (case aL => have := LMc14.out; omega); intro v357 w16 ho hb hg hat; rw [← Ny356.out] at ho; have n0_ := Aside0.mk (blk_grown (g := gb353) (o := .cells #[.int .i64 a0_0, .int .i64 a0_1, .int .i64 a0_2, .int .i64 a0_3, .bool a0_4] 27 (0, 0)) (kb BK353.out) hg (Kd.R_ne HO_8.out BK353.out (by decide))); have n1_ := Aside0.mk (hb); have n2_ := Aside0.mk (ho); clear BK353; clear HB; clear HO_8; have BK353 := n0_; have HB := n1_; have HO358 := n2_; clear n0_ n1_ n2_; clear ho hb hg hat))
          go_roundg k1
          case measure => have := HK1.out; omega
          case rel => exact ⟨(wrap64 ((wrap64 (a0_0 * x1_1)) + (wrap64 ((rd l2 x14_1) * (ji9))))), (y356), (ji9), (wrap64 (x14_1 + 1)), (by first | rfl | (simp; done) | (simp only [← hji9] <;> (first | rfl | simp)) | (simp [*]; done)), (by first | rfl | (simp; done) | (simp only [← hji9] <;> (first | rfl | simp)) | (simp [*]; done)), (by first | rfl | (simp; done) | (simp [*]; done)), H', ⟨by have := HK1.out; omega⟩, ⟨kr HO358.out⟩, ⟨kb BK353.out⟩, ⟨bl1 HB.out GE353.out⟩⟩
         ·rw [if_neg c14] at H
          exact absurd H (by simp)
        ·replace c13 := Bool.eq_false_iff.mpr c13
         subst c13
         rw [if_neg (show ¬ (false = true) by decide)] at H
         simp only [Option.some.injEq, Prod.mk.injEq] at H
         obtain ⟨rfl, rfl⟩ := H
         have p354 : 0 ≤ (x14_1 : Int) := of_decide_eq_true (by first | (with_reducible assumption) | assumption)
         have q354 : x14_1 < (l2.length : Int) := of_decide_eq_true (by first | (with_reducible assumption) | assumption)
         obtain ⟨ad354, e354, hx354_0⟩ := Kd.at_int HR2.out x14_1 p354 q354
         cases e354
         replace hx354_0 := (HB.out.cell (World.block_lt_of_cell? w _ hx354_0)).trans hx354_0
         replace p354 := eq_true p354
         replace q354 := eq_true q354
         obtain ⟨hcz17_0, hcz17_1, hcz17_2, hcz17_3, hcz17_4, hfz17_0, hfz17_1, hfz17_2, hfz17_3, hfz17_4⟩ := cz5 BK353.out
         go_wp2_with (first | ((with_reducible refine gate_callee (f := 137) rfl ?_); refine goesL_ (some 33) rfl rfl Try.func137 (by kernel_rfl) rfl #[.int .i64 (wrap64 ((wrap64 (a0_0 * x1_1)) + (wrap64 ((rd l2 x14_1) * (ji9)))))] rfl (by (try simp only [List.map_toArray, List.map_cons, List.map_nil]); first | done | (simp only [hji9]; rfl) | rfl | (simp only [List.length_drop, List.length_take]; rfl)) ?_; (with_reducible refine (spec_wdNumber.calls (wrap64 ((wrap64 (a0_0 * x1_1)) + (wrap64 ((rd l2 x14_1) * (ji9))))) false _ A12.out).mono ?_); rintro e w' ⟨rfl, ⟨nd, rfl⟩⟩; refine ⟨_, rfl, ?_⟩))
         go_ret2
         exact ⟨_, by first | rfl | (simp [errW_none, errW_some] <;> rfl) | (simp only [← hji9]; first | rfl | (simp [errW_none, errW_some] <;> rfl)) | (simp [*, errW_none, errW_some] <;> rfl), by first | exact Kd.R_nil _ _ _ _ _ | exact Kd.N_nil _ _ _ _ _ | exact Kd.V_nil _ _ _ _ _ | exact Kd.Q_nil _ _ _ _ _ | exact Kd.S_nil _ _ _ _ _, bl1 HB.out GE353.out⟩
      ·rw [if_neg c8] at H
       exact absurd H (by simp)
     ·rw [if_neg c7] at H
      exact absurd H (by simp)
    ·rw [if_neg c6] at H
     exact absurd H (by simp)
   ·rw [if_neg c5] at H
    have c5b0 : decide (x14_1 < (l2.length : Int)) = false := decide_eq_false c5
    clear c5
    simp only [Option.some.injEq, Prod.mk.injEq] at H
    obtain ⟨rfl, rfl⟩ := H
    go_wp2
    go_ret2
    exact ⟨_, by first | rfl | (simp [errW_none, errW_some] <;> rfl) | (simp [*, errW_none, errW_some] <;> rfl), kr HO_8.out, bl1 HB.out GE353.out⟩

/-! ### spec_ExactFirst: function 12 -/
def spec_ExactFirst.f (k : Nat) (a0_0 : Int) (a0_1 : Int) (a0_2 : Int) (a0_3 : Int) (a0_4 : Bool) (a1 : Int) (l2 : List Int) : Option (List Int × Bool) := (spec_foAsked.f a0_0 a0_1 a0_2 a0_3 a0_4 a1 0).bind fun t360 => (if t360 = true then ((spec_wdSignal.f k l2).bind fun t361 => (if t361 = true then ((spec_foExact.f k a0_0 a0_1 a0_2 a0_3 a0_4 a1 l2).bind fun bt362 => (some (bt362.1, bt362.2))) else (some (([] : List Int), false)))) else (some (([] : List Int), false)))

set_option maxHeartbeats 80000000 in
set_option maxRecDepth 100000 in
theorem spec_ExactFirst.calls (k : Nat) (a0_0 : Int) (a0_1 : Int) (a0_2 : Int) (a0_3 : Int) (a0_4 : Bool) (a1 : Int) (A2 : Option Addr) (c2 : Nat) (l2 : List Int) (r1 : List Int) (r2 : Bool) (w : World) (hr2 : Kd.C (Kd.int .i64) w A2 l2.length l2) (hc2 : l2.length ≤ c2) (h : spec_ExactFirst.f k a0_0 a0_1 a0_2 a0_3 a0_4 a1 l2 = some (r1, r2)) :
  Calls Try.prog 12 #[.agg #[.int .i64 a0_0, .int .i64 a0_1, .int .i64 a0_2, .int .i64 a0_3, .bool a0_4], .int .i64 a1, .slice A2 l2.length c2] w fun e w' => ∃ v0_ : Value, e = .returned (.tuple #[v0_, .bool r2]) ∧ Kd.R (Kd.int .i64) 3 w' w.heap.size (fun _ => True) v0_ r1 ∧ Below w.heap.size w w' := by
 have hu27 := Try.underlying27
 have HR2 := Aside0.mk hr2
 have HC2 := Aside0.mk hc2
 clear hr2 hc2
 have HB := Aside0.mk (Below.refl w.heap.size w)
 have H : ((spec_foAsked.f a0_0 a0_1 a0_2 a0_3 a0_4 a1 0).bind fun t360 => (if t360 = true then ((spec_wdSignal.f k l2).bind fun t361 => (if t361 = true then ((spec_foExact.f k a0_0 a0_1 a0_2 a0_3 a0_4 a1 l2).bind fun bt362 => (some (bt362.1, bt362.2))) else (some (([] : List Int), false)))) else (some (([] : List Int), false)))) = some (r1, r2) := h
 clear h
 replace H := Option.bind_eq_some_iff.mp H
 obtain ⟨t360, A40, H⟩ := H
 (try dsimp only at H)
 have A4 := Aside0.mk A40
 clear A40
 by_cases c5 : t360 = true
 ·subst c5
  rw [if_pos rfl] at H
  replace H := Option.bind_eq_some_iff.mp H
  obtain ⟨t361, A60, H⟩ := H
  (try dsimp only at H)
  have A6 := Aside0.mk A60
  clear A60
  by_cases c7 : t361 = true
  ·subst c7
   rw [if_pos rfl] at H
   replace H := Option.bind_eq_some_iff.mp H
   obtain ⟨⟨t362, t365⟩, A80, H⟩ := H
   (try dsimp only at H)
   have A8 := Aside0.mk A80
   clear A80
   simp only [Option.some.injEq, Prod.mk.injEq] at H
   obtain ⟨rfl, rfl⟩ := H
   go_enter Try.func12, Try.ntmps12
   go_wp2_with (first | ((with_reducible refine gate_dst (N := 3) rfl ?_); refine boxS_ 3 (#[.int .i64 a0_0, .int .i64 a0_1, .int .i64 a0_2, .int .i64 a0_3, .bool a0_4]) 27 ?_; intro gb359 hg w9 hbox hb; have n0_ := Aside0.mk (below_step (bl0 HB.out) hb); have n1_ := Aside0.mk (hbox); have n2_ := Aside0.mk ((by rw [hg]; exact (below_size (bl0 HB.out)) : w.heap.size ≤ gb359)); have n3_ := Aside0.mk ((by rw [hg]; exact (below_size (bl0 HB.out)) : w.heap.size ≤ gb359)); clear HB; have HB := n0_; have BK359 := n1_; have GW359 := n2_; have GE359 := n3_; clear n0_ n1_ n2_ n3_; clear hb hbox hg; obtain ⟨hcz10_0, hcz10_1, hcz10_2, hcz10_3, hcz10_4, hfz10_0, hfz10_1, hfz10_2, hfz10_3, hfz10_4⟩ := cz5 BK359.out) | ((with_reducible refine gate_callee (f := 86) rfl ?_); refine goesLS_ (some 10) Try.func86 #[.agg #[.int .i64 a0_0, .int .i64 a0_1, .int .i64 a0_2, .int .i64 a0_3, .bool a0_4], .int .i64 a1, .int .i64 0] ?_; (with_reducible refine (spec_foAsked.calls a0_0 a0_1 a0_2 a0_3 a0_4 a1 0 true _ A4.out).mono ?_); rintro e w11 ⟨rfl, hb⟩; refine ⟨_, rfl, ?_⟩; have n0_ := Aside0.mk (blk_below (g := gb359) (o := .cells #[.int .i64 a0_0, .int .i64 a0_1, .int .i64 a0_2, .int .i64 a0_3, .bool a0_4] 27 (0, 0)) (kb BK359.out) hb); have n1_ := Aside0.mk (below_step (bl1 HB.out GE359.out) hb); clear BK359; clear HB; have BK359 := n0_; have HB := n1_; clear n0_ n1_; (try clear hb); (try clear hb2); (try clear hk); (try clear hi)) | (go_at_call 87; (with_reducible refine (spec_wdSignal.calls k _ _ l2 true _ ?side1 ?side2 A6.out).mono ?_); (case side1 => repeat (first | exact (Kd.C_below HR2.out HB.out) | (with_reducible refine Kd.C_alloc ?_ _) | (with_reducible refine Kd.C_drewN ?_ _) | (with_reducible refine Kd.C_drew ?_))); (case side2 => exact HC2.out); rintro e w' ⟨rfl, ⟨nd, rfl⟩⟩; obtain ⟨hcz12_0, hcz12_1, hcz12_2, hcz12_3, hcz12_4, hfz12_0, hfz12_1, hfz12_2, hfz12_3, hfz12_4⟩ := cz5 BK359.out) | ((with_reducible refine gate_callee (f := 92) rfl ?_); refine goesLS_ (some 20) Try.func92 #[.agg #[.int .i64 a0_0, .int .i64 a0_1, .int .i64 a0_2, .int .i64 a0_3, .bool a0_4], .int .i64 a1, .slice A2 l2.length c2] ?_; (with_reducible refine (spec_foExact.calls k a0_0 a0_1 a0_2 a0_3 a0_4 a1 _ _ l2 t362 t365 _ ?side1 ?side2 A8.out).mono ?_); (case side1 => repeat (first | exact (Kd.C_below HR2.out (bl1 HB.out GE359.out)) | (with_reducible refine Kd.C_alloc ?_ _) | (with_reducible refine Kd.C_drewN ?_ _) | (with_reducible refine Kd.C_drew ?_))); (case side2 => exact HC2.out); rintro e w13 ⟨v363, rfl, ho0, hb⟩; refine ⟨_, rfl, ?_⟩; have n0_ := Aside0.mk (Kd.R_lower ho0 (below_size (bl1 HB.out GE359.out))); have n1_ := Aside0.mk (blk_below (g := gb359) (o := .cells #[.int .i64 a0_0, .int .i64 a0_1, .int .i64 a0_2, .int .i64 a0_3, .bool a0_4] 27 (0, 0)) (kb BK359.out) hb); have n2_ := Aside0.mk (below_step (bl1 HB.out GE359.out) hb); clear BK359; clear HB; have HO364 := n0_; have BK359 := n1_; have HB := n2_; clear n0_ n1_ n2_; (try clear hb); (try clear hb2); (try clear hk); (try clear hi); (try clear ho0)))
   go_ret2
   exact ⟨_, by first | rfl | (simp [errW_none, errW_some] <;> rfl) | (simp [*, errW_none, errW_some] <;> rfl), kr HO364.out, bl1 HB.out GE359.out⟩
  ·replace c7 := Bool.eq_false_iff.mpr c7
   subst c7
   rw [if_neg (show ¬ (false = true) by decide)] at H
   simp only [Option.some.injEq, Prod.mk.injEq] at H
   obtain ⟨rfl, rfl⟩ := H
   go_enter Try.func12, Try.ntmps12
   go_wp2_with (first | ((with_reducible refine gate_dst (N := 3) rfl ?_); refine boxS_ 3 (#[.int .i64 a0_0, .int .i64 a0_1, .int .i64 a0_2, .int .i64 a0_3, .bool a0_4]) 27 ?_; intro gb359 hg w14 hbox hb; have n0_ := Aside0.mk (below_step (bl0 HB.out) hb); have n1_ := Aside0.mk (hbox); have n2_ := Aside0.mk ((by rw [hg]; exact (below_size (bl0 HB.out)) : w.heap.size ≤ gb359)); have n3_ := Aside0.mk ((by rw [hg]; exact (below_size (bl0 HB.out)) : w.heap.size ≤ gb359)); clear HB; have HB := n0_; have BK359 := n1_; have GW359 := n2_; have GE359 := n3_; clear n0_ n1_ n2_ n3_; clear hb hbox hg; obtain ⟨hcz15_0, hcz15_1, hcz15_2, hcz15_3, hcz15_4, hfz15_0, hfz15_1, hfz15_2, hfz15_3, hfz15_4⟩ := cz5 BK359.out) | ((with_reducible refine gate_callee (f := 86) rfl ?_); refine goesLS_ (some 10) Try.func86 #[.agg #[.int .i64 a0_0, .int .i64 a0_1, .int .i64 a0_2, .int .i64 a0_3, .bool a0_4], .int .i64 a1, .int .i64 0] ?_; (with_reducible refine (spec_foAsked.calls a0_0 a0_1 a0_2 a0_3 a0_4 a1 0 true _ A4.out).mono ?_); rintro e w16 ⟨rfl, hb⟩; refine ⟨_, rfl, ?_⟩; have n0_ := Aside0.mk (blk_below (g := gb359) (o := .cells #[.int .i64 a0_0, .int .i64 a0_1, .int .i64 a0_2, .int .i64 a0_3, .bool a0_4] 27 (0, 0)) (kb BK359.out) hb); have n1_ := Aside0.mk (below_step (bl1 HB.out GE359.out) hb); clear BK359; clear HB; have BK359 := n0_; have HB := n1_; clear n0_ n1_; (try clear hb); (try clear hb2); (try clear hk); (try clear hi)) | (go_at_call 87; (with_reducible refine (spec_wdSignal.calls k _ _ l2 false _ ?side1 ?side2 A6.out).mono ?_); (case side1 => repeat (first | exact (Kd.C_below HR2.out HB.out) | (with_reducible refine Kd.C_alloc ?_ _) | (with_reducible refine Kd.C_drewN ?_ _) | (with_reducible refine Kd.C_drew ?_))); (case side2 => exact HC2.out); rintro e w' ⟨rfl, ⟨nd, rfl⟩⟩))
   go_ret2
   exact ⟨_, by first | rfl | (simp [errW_none, errW_some] <;> rfl) | (simp [*, errW_none, errW_some] <;> rfl), by first | exact Kd.R_nil _ _ _ _ _ | exact Kd.N_nil _ _ _ _ _ | exact Kd.V_nil _ _ _ _ _ | exact Kd.Q_nil _ _ _ _ _ | exact Kd.S_nil _ _ _ _ _, bl1 HB.out GE359.out⟩
 ·replace c5 := Bool.eq_false_iff.mpr c5
  subst c5
  rw [if_neg (show ¬ (false = true) by decide)] at H
  simp only [Option.some.injEq, Prod.mk.injEq] at H
  obtain ⟨rfl, rfl⟩ := H
  go_enter Try.func12, Try.ntmps12
  go_wp2_with (first | ((with_reducible refine gate_dst (N := 3) rfl ?_); refine boxS_ 3 (#[.int .i64 a0_0, .int .i64 a0_1, .int .i64 a0_2, .int .i64 a0_3, .bool a0_4]) 27 ?_; intro gb359 hg w17 hbox hb; have n0_ := Aside0.mk (below_step (bl0 HB.out) hb); have n1_ := Aside0.mk (hbox); have n2_ := Aside0.mk ((by rw [hg]; exact (below_size (bl0 HB.out)) : w.heap.size ≤ gb359)); have n3_ := Aside0.mk ((by rw [hg]; exact (below_size (bl0 HB.out)) : w.heap.size ≤ gb359)); clear HB; have HB := n0_; have BK359 := n1_; have GW359 := n2_; have GE359 := n3_; clear n0_ n1_ n2_ n3_; clear hb hbox hg; obtain ⟨hcz18_0, hcz18_1, hcz18_2, hcz18_3, hcz18_4, hfz18_0, hfz18_1, hfz18_2, hfz18_3, hfz18_4⟩ := cz5 BK359.out) | ((with_reducible refine gate_callee (f := 86) rfl ?_); refine goesLS_ (some 10) Try.func86 #[.agg #[.int .i64 a0_0, .int .i64 a0_1, .int .i64 a0_2, .int .i64 a0_3, .bool a0_4], .int .i64 a1, .int .i64 0] ?_; (with_reducible refine (spec_foAsked.calls a0_0 a0_1 a0_2 a0_3 a0_4 a1 0 false _ A4.out).mono ?_); rintro e w19 ⟨rfl, hb⟩; refine ⟨_, rfl, ?_⟩; have n0_ := Aside0.mk (blk_below (g := gb359) (o := .cells #[.int .i64 a0_0, .int .i64 a0_1, .int .i64 a0_2, .int .i64 a0_3, .bool a0_4] 27 (0, 0)) (kb BK359.out) hb); have n1_ := Aside0.mk (below_step (bl1 HB.out GE359.out) hb); clear BK359; clear HB; have BK359 := n0_; have HB := n1_; clear n0_ n1_; (try clear hb); (try clear hb2); (try clear hk); (try clear hi)))
  go_ret2
  exact ⟨_, by first | rfl | (simp [errW_none, errW_some] <;> rfl) | (simp [*, errW_none, errW_some] <;> rfl), by first | exact Kd.R_nil _ _ _ _ _ | exact Kd.N_nil _ _ _ _ _ | exact Kd.V_nil _ _ _ _ _ | exact Kd.Q_nil _ _ _ _ _ | exact Kd.S_nil _ _ _ _ _, bl1 HB.out GE359.out⟩

end Go.Proofs.Ytcekmdepalbnhaa.PFnFirstRuns
