-- printed by a program of this claim's own
import Derived.Test.YtcekmdepalbnhaaPFnFirstRunsx0
import Derived.Test.YtcekmdepalbnhaaPFnFirstRunsx1
namespace Go.Proofs.Ytcekmdepalbnhaa.PFnFirstRuns
open Go.RowKit Go.Proofs.YtcekmdepalbnhaaW.PrintWords Go.Proofs.YtcekmdepalbnhaaW.PrintLast Go.Proofs.YtcekmdepalbnhaaW.PrintMore Go.Proofs.Ytcekmdepalbnhaa.Cuts
attribute [local go_sem] max2_int min2_int max_two min_two max_three min_three max_four min_four   -- for this text's walks alone
set_option linter.unusedVariables false
set_option linter.unusedSimpArgs false

/-! ### spec_l1Cur_first: function 80 -/
def spec_l1Cur_first.f (s0_0 : List Int) (s0_1 : Int) (s0_2 : Int) (a1 : Int) : Option (Int × Int × Int × Int × Bool × Int × Int) := (spec_l1Cur_pick.f s0_0 s0_1 s0_2 5).bind fun bt135 => (if 0 ≤ bt135.1 then ((spec_l1Cur_pick.f s0_0 bt135.2.1 bt135.2.2 (wrap64 ((shl .i64 2 bt135.1) + 3))).bind fun bt138 => ((spec_l1Cur_pick.f s0_0 bt138.2.1 bt138.2.2 3).bind fun bt141 => ((spec_l1Cur_pick.f s0_0 bt141.2.1 bt141.2.2 (wrap64 (a1 - 1))).bind fun bt144 => ((spec_l1Cur_one.f s0_0 bt144.2.1 bt144.2.2 2).bind fun bt147 => ((spec_l1Cur_pick.f s0_0 bt147.2.1 bt147.2.2 18).bind fun bt151 => (if bt151.1 = 0 then ((spec_l1Cur_among.f s0_0 bt151.2.1 bt151.2.2 (([1024, (-1024), 1025, (-4611686018427387904), 0] : List Int))).bind fun bt157 => (some (bt157.1, bt135.1, bt141.1, wrap64 (2 + bt144.1), bt147.1, bt157.2.1, bt157.2.2))) else (if bt151.1 = 1 then ((spec_l1Cur_among.f s0_0 bt151.2.1 bt151.2.2 (([10, 11, (-1), 64] : List Int))).bind fun bt163 => (some (wrap64 ((wrap64 (bt138.1 - (shl .i64 1 bt135.1))) - 1), bt163.1, bt141.1, wrap64 (2 + bt144.1), bt147.1, bt163.2.1, bt163.2.2))) else (if bt151.1 = 2 then ((spec_l1Cur_among.f s0_0 bt151.2.1 bt151.2.2 (([3, (-1)] : List Int))).bind fun bt169 => (some (wrap64 ((wrap64 (bt138.1 - (shl .i64 1 bt135.1))) - 1), bt135.1, bt169.1, wrap64 (2 + bt144.1), bt147.1, bt169.2.1, bt169.2.2))) else (if bt151.1 = 3 then ((spec_l1Cur_word.f s0_0 bt151.2.1 bt151.2.2).bind fun bt172 => (some (wrap64 ((wrap64 (bt138.1 - (shl .i64 1 bt135.1))) - 1), bt135.1, bt141.1, bt172.1, bt172.2.1, bt172.2.2.1, bt172.2.2.2))) else (some (wrap64 ((wrap64 (bt138.1 - (shl .i64 1 bt135.1))) - 1), bt135.1, bt141.1, wrap64 (2 + bt144.1), bt147.1, bt151.2.1, bt151.2.2))))))))))) else (none))
def spec_l1Cur_first.T2 : Bool × List (List Nat × List Nat) := (true, [([], []), ([], []), ([1], [1]), ([2], [2]), ([0, 3], [0, 3]), ([], []), ([5], [5]), ([4, 6], [4, 6]), ([7], [7]), ([], []), ([], []), ([10, 4], [10]), ([], []), ([], []), ([13], [13]), ([12, 14, 11], [12, 14]), ([15], [15]), ([], []), ([17, 15], [17]), ([16, 18], [16, 18]), ([8, 9, 11, 19], [8, 9, 11, 19]), ([], []), ([21, 20, 18, 0, 1, 2, 3, 4, 5, 6, 7, 8, 9, 10, 11, 12, 13, 14, 15, 16, 17, 18, 19, 20, 21], [20, 21])])
def spec_l1Cur_first.B2 : List Nat := [0, 0, 2, 6, 15, 0, 32, 127, 255, 0, 0, 1055, 0, 0, 8192, 31775, 64543, 0, 195615, 523295, 1048575, 0, 4194303]
theorem spec_l1Cur_first.tab2 : rtab .any (opsOf Try.f80 2) = spec_l1Cur_first.T2 := by kernel_rfl
theorem spec_l1Cur_first.bits2 : waitsOk spec_l1Cur_first.T2.2 spec_l1Cur_first.B2 = true := by kernel_rfl
set_option maxHeartbeats 80000000 in
set_option maxRecDepth 100000 in
theorem spec_l1Cur_first.calls (g : Nat) (s0_0 : List Int) (s0_1 : Int) (s0_2 : Int) (a1 : Int) (r1 : Int) (r2 : Int) (r3 : Int) (r4 : Int) (r5 : Bool) (r6 : Int) (r7 : Int) (w0 w : World) (hI : IsS90 w0 w g s0_0 s0_1 s0_2) (hB : Below w0.heap.size w0 w) (h : spec_l1Cur_first.f s0_0 s0_1 s0_2 a1 = some (r1, r2, r3, r4, r5, r6, r7)) :
  Calls Try.prog 80 #[.pointer (some ⟨g, 0, none⟩), .int .i64 a1] w fun e w' => e = .returned (.agg #[.int .i64 r1, .int .i64 r2, .int .i64 r3, .int .i64 r4, .bool r5]) ∧ IsS90 w0 w' g s0_0 r6 r7 ∧ Below w0.heap.size w0 w' ∧ KeepBut w w' g none := by
 have hu27 := Try.underlying27
 have hu25 := Try.underlying25
 have HI0 := Aside0.mk hI
 have HK := Aside0.mk (KeepBut.refl w g none)
 have HL := Aside0.mk hB.size
 clear hI
 have HW0 := Aside0.mk hB.size
 have HB := Aside0.mk hB
 clear hB
 have H : ((spec_l1Cur_pick.f s0_0 s0_1 s0_2 5).bind fun bt135 => (if 0 ≤ bt135.1 then ((spec_l1Cur_pick.f s0_0 bt135.2.1 bt135.2.2 (wrap64 ((shl .i64 2 bt135.1) + 3))).bind fun bt138 => ((spec_l1Cur_pick.f s0_0 bt138.2.1 bt138.2.2 3).bind fun bt141 => ((spec_l1Cur_pick.f s0_0 bt141.2.1 bt141.2.2 (wrap64 (a1 - 1))).bind fun bt144 => ((spec_l1Cur_one.f s0_0 bt144.2.1 bt144.2.2 2).bind fun bt147 => ((spec_l1Cur_pick.f s0_0 bt147.2.1 bt147.2.2 18).bind fun bt151 => (if bt151.1 = 0 then ((spec_l1Cur_among.f s0_0 bt151.2.1 bt151.2.2 (([1024, (-1024), 1025, (-4611686018427387904), 0] : List Int))).bind fun bt157 => (some (bt157.1, bt135.1, bt141.1, wrap64 (2 + bt144.1), bt147.1, bt157.2.1, bt157.2.2))) else (if bt151.1 = 1 then ((spec_l1Cur_among.f s0_0 bt151.2.1 bt151.2.2 (([10, 11, (-1), 64] : List Int))).bind fun bt163 => (some (wrap64 ((wrap64 (bt138.1 - (shl .i64 1 bt135.1))) - 1), bt163.1, bt141.1, wrap64 (2 + bt144.1), bt147.1, bt163.2.1, bt163.2.2))) else (if bt151.1 = 2 then ((spec_l1Cur_among.f s0_0 bt151.2.1 bt151.2.2 (([3, (-1)] : List Int))).bind fun bt169 => (some (wrap64 ((wrap64 (bt138.1 - (shl .i64 1 bt135.1))) - 1), bt135.1, bt169.1, wrap64 (2 + bt144.1), bt147.1, bt169.2.1, bt169.2.2))) else (if bt151.1 = 3 then ((spec_l1Cur_word.f s0_0 bt151.2.1 bt151.2.2).bind fun bt172 => (some (wrap64 ((wrap64 (bt138.1 - (shl .i64 1 bt135.1))) - 1), bt135.1, bt141.1, bt172.1, bt172.2.1, bt172.2.2.1, bt172.2.2.2))) else (some (wrap64 ((wrap64 (bt138.1 - (shl .i64 1 bt135.1))) - 1), bt135.1, bt141.1, wrap64 (2 + bt144.1), bt147.1, bt151.2.1, bt151.2.2))))))))))) else (none))) = some (r1, r2, r3, r4, r5, r6, r7) := h
 clear h
 replace H := Option.bind_eq_some_iff.mp H
 obtain ⟨⟨t135, t136, t137⟩, A30, H⟩ := H
 (try dsimp only at H)
 have A3 := Aside0.mk A30
 clear A30
 by_cases c4 : 0 ≤ t135
 ·rw [if_pos c4] at H
  have c4b0 := eq_true c4
  have c4b1 : decide (0 ≤ t135) = true := decide_eq_true c4
  clear c4
  obtain ⟨ji5, hji5⟩ : ∃ j_ : Int, (shl .i64 2 t135) = j_ := ⟨_, rfl⟩
  replace H : ((spec_l1Cur_pick.f s0_0 t136 t137 (wrap64 ((ji5) + 3))).bind fun bt138 => ((spec_l1Cur_pick.f s0_0 bt138.2.1 bt138.2.2 3).bind fun bt141 => ((spec_l1Cur_pick.f s0_0 bt141.2.1 bt141.2.2 (wrap64 (a1 - 1))).bind fun bt144 => ((spec_l1Cur_one.f s0_0 bt144.2.1 bt144.2.2 2).bind fun bt147 => ((spec_l1Cur_pick.f s0_0 bt147.2.1 bt147.2.2 18).bind fun bt151 => (if bt151.1 = 0 then ((spec_l1Cur_among.f s0_0 bt151.2.1 bt151.2.2 (([1024, (-1024), 1025, (-4611686018427387904), 0] : List Int))).bind fun bt157 => (some (bt157.1, t135, bt141.1, wrap64 (2 + bt144.1), bt147.1, bt157.2.1, bt157.2.2))) else (if bt151.1 = 1 then ((spec_l1Cur_among.f s0_0 bt151.2.1 bt151.2.2 (([10, 11, (-1), 64] : List Int))).bind fun bt163 => (some (wrap64 ((wrap64 (bt138.1 - (shl .i64 1 t135))) - 1), bt163.1, bt141.1, wrap64 (2 + bt144.1), bt147.1, bt163.2.1, bt163.2.2))) else (if bt151.1 = 2 then ((spec_l1Cur_among.f s0_0 bt151.2.1 bt151.2.2 (([3, (-1)] : List Int))).bind fun bt169 => (some (wrap64 ((wrap64 (bt138.1 - (shl .i64 1 t135))) - 1), t135, bt169.1, wrap64 (2 + bt144.1), bt147.1, bt169.2.1, bt169.2.2))) else (if bt151.1 = 3 then ((spec_l1Cur_word.f s0_0 bt151.2.1 bt151.2.2).bind fun bt172 => (some (wrap64 ((wrap64 (bt138.1 - (shl .i64 1 t135))) - 1), t135, bt141.1, bt172.1, bt172.2.1, bt172.2.2.1, bt172.2.2.2))) else (some (wrap64 ((wrap64 (bt138.1 - (shl .i64 1 t135))) - 1), t135, bt141.1, wrap64 (2 + bt144.1), bt147.1, bt151.2.1, bt151.2.2))))))))))) = some (r1, r2, r3, r4, r5, r6, r7) := by first | (rw [hji5] at H; exact H) | (simp only [hji5] at H ⊢; exact H)
  (try rw [hji5] at A3)
  have hji5_ : (IntKind.i64.wrap (2 * 2 ^ min t135.toNat 64)) = ji5 := hji5
  have hji5z : t135 ≤ 64 → (IntKind.i64.wrap (2 * 2 ^ t135.toNat)) = ji5 := shl_small hji5
  have hji5y : (wrap64 (2 * 2 ^ min t135.toNat 64)) = ji5 := (i64_w _).symm.trans hji5_
  have hji5x : t135 ≤ 64 → (wrap64 (2 * 2 ^ t135.toNat)) = ji5 := fun h_ => (i64_w _).symm.trans (hji5z h_)
  replace H := Option.bind_eq_some_iff.mp H
  obtain ⟨⟨t138, t139, t140⟩, A60, H⟩ := H
  (try dsimp only at H)
  have A6 := Aside0.mk A60
  clear A60
  have c7b0 := eq_true (of_decide_eq_true (by first | (with_reducible assumption) | assumption) : 0 ≤ t135)
  obtain ⟨ji8, hji8⟩ : ∃ j_ : Int, (shl .i64 1 t135) = j_ := ⟨_, rfl⟩
  replace H : ((spec_l1Cur_pick.f s0_0 t139 t140 3).bind fun bt141 => ((spec_l1Cur_pick.f s0_0 bt141.2.1 bt141.2.2 (wrap64 (a1 - 1))).bind fun bt144 => ((spec_l1Cur_one.f s0_0 bt144.2.1 bt144.2.2 2).bind fun bt147 => ((spec_l1Cur_pick.f s0_0 bt147.2.1 bt147.2.2 18).bind fun bt151 => (if bt151.1 = 0 then ((spec_l1Cur_among.f s0_0 bt151.2.1 bt151.2.2 (([1024, (-1024), 1025, (-4611686018427387904), 0] : List Int))).bind fun bt157 => (some (bt157.1, t135, bt141.1, wrap64 (2 + bt144.1), bt147.1, bt157.2.1, bt157.2.2))) else (if bt151.1 = 1 then ((spec_l1Cur_among.f s0_0 bt151.2.1 bt151.2.2 (([10, 11, (-1), 64] : List Int))).bind fun bt163 => (some (wrap64 ((wrap64 (t138 - (ji8))) - 1), bt163.1, bt141.1, wrap64 (2 + bt144.1), bt147.1, bt163.2.1, bt163.2.2))) else (if bt151.1 = 2 then ((spec_l1Cur_among.f s0_0 bt151.2.1 bt151.2.2 (([3, (-1)] : List Int))).bind fun bt169 => (some (wrap64 ((wrap64 (t138 - (ji8))) - 1), t135, bt169.1, wrap64 (2 + bt144.1), bt147.1, bt169.2.1, bt169.2.2))) else (if bt151.1 = 3 then ((spec_l1Cur_word.f s0_0 bt151.2.1 bt151.2.2).bind fun bt172 => (some (wrap64 ((wrap64 (t138 - (ji8))) - 1), t135, bt141.1, bt172.1, bt172.2.1, bt172.2.2.1, bt172.2.2.2))) else (some (wrap64 ((wrap64 (t138 - (ji8))) - 1), t135, bt141.1, wrap64 (2 + bt144.1), bt147.1, bt151.2.1, bt151.2.2)))))))))) = some (r1, r2, r3, r4, r5, r6, r7) := by first | (rw [hji8] at H; exact H) | (simp only [hji8] at H ⊢; exact H)
  (try rw [hji8] at A3)
  (try rw [hji8] at A6)
  have hji8_ : (IntKind.i64.wrap (1 * 2 ^ min t135.toNat 64)) = ji8 := hji8
  have hji8z : t135 ≤ 64 → (IntKind.i64.wrap (1 * 2 ^ t135.toNat)) = ji8 := shl_small hji8
  have hji8u : (IntKind.i64.wrap (2 ^ min t135.toNat 64)) = ji8 := by have h_ := hji8_; rw [Int.one_mul] at h_; exact h_
  have hji8v : t135 ≤ 64 → (IntKind.i64.wrap (2 ^ t135.toNat)) = ji8 := fun hle_ => by have h_ := hji8z hle_; rw [Int.one_mul] at h_; exact h_
  have hji8y : (wrap64 (1 * 2 ^ min t135.toNat 64)) = ji8 := (i64_w _).symm.trans hji8_
  have hji8x : t135 ≤ 64 → (wrap64 (1 * 2 ^ t135.toNat)) = ji8 := fun h_ => (i64_w _).symm.trans (hji8z h_)
  replace H := Option.bind_eq_some_iff.mp H
  obtain ⟨⟨t141, t142, t143⟩, A90, H⟩ := H
  (try dsimp only at H)
  have A9 := Aside0.mk A90
  clear A90
  replace H := Option.bind_eq_some_iff.mp H
  obtain ⟨⟨t144, t145, t146⟩, A100, H⟩ := H
  (try dsimp only at H)
  have A10 := Aside0.mk A100
  clear A100
  replace H := Option.bind_eq_some_iff.mp H
  obtain ⟨⟨t147, t148, t149⟩, A110, H⟩ := H
  (try dsimp only at H)
  have A11 := Aside0.mk A110
  clear A110
  replace H := Option.bind_eq_some_iff.mp H
  obtain ⟨⟨t151, t152, t153⟩, A120, H⟩ := H
  (try dsimp only at H)
  have A12 := Aside0.mk A120
  clear A120
  have H' := Aside0.mk H
  clear H
  go_enter Try.func80, Try.ntmps80
  try go_wp2_with (first | ((with_reducible refine gate_dst (N := 4) rfl ?_); refine boxS_ 4 (#[.int .i64 0, .int .i64 0, .int .i64 0, .int .i64 0, .bool false]) 27 ?_; intro gb134 hg w15 hbox hb; have n0_ := Aside0.mk (IsS90.below (by repeat (first | (with_reducible first | exact HI0.out | apply IsS90.alloc | apply IsS90.drewN | apply IsS90.drew | apply IsS90.set_1 | apply IsS90.set_2) | exact HI0.out)) hb); have n1_ := Aside0.mk (KeepBut.trans (kk0 HK.out) (KeepBut.of_below hb g none) (.inl rfl)); have n2_ := Aside0.mk (below_step (bl1 HB.out (IsS90.ge HI0.out)) hb); have n3_ := Aside0.mk (hbox); have n4_ := Aside0.mk ((by rw [hg]; exact (keep_size (w := w) (g := g) (row := none) (kk0 HK.out)) : w.heap.size ≤ gb134)); have n5_ := Aside0.mk ((Nat.le_trans HW0.out (by rw [hg]; exact (keep_size (w := w) (g := g) (row := none) (kk0 HK.out)) : w.heap.size ≤ gb134) : w0.heap.size ≤ gb134)); have n6_ := Aside0.mk ((by rw [hg]; exact Nat.ne_of_lt (IsS90.lt (show IsS90 w0 _ g s0_0 s0_1 s0_2 from by repeat (first | (with_reducible first | exact HI0.out | apply IsS90.alloc | apply IsS90.drewN | apply IsS90.drew | apply IsS90.set_1 | apply IsS90.set_2) | exact HI0.out))) : g ≠ gb134)); have n7_ := Aside0.mk ((by rw [hg]; exact Nat.ne_of_gt (IsS90.lt (show IsS90 w0 _ g s0_0 s0_1 s0_2 from by repeat (first | (with_reducible first | exact HI0.out | apply IsS90.alloc | apply IsS90.drewN | apply IsS90.drew | apply IsS90.set_1 | apply IsS90.set_2) | exact HI0.out))) : gb134 ≠ g)); clear HI0; clear HK; clear HB; have HI0 := n0_; have HK := n1_; have HB := n2_; have BK134 := n3_; have GW134 := n4_; have GE134 := n5_; have NB0_134 := n6_; have NB134_0 := n7_; clear n0_ n1_ n2_ n3_ n4_ n5_ n6_ n7_; clear hb hbox hg) | ((with_reducible refine gate_callee (f := 157) rfl ?_); refine goesLS_ (some 8) Try.func157 #[.pointer (some ⟨g, 0, none⟩), .int .i64 5] ?_; (with_reducible refine (spec_l1Cur_pick.calls g s0_0 s0_1 s0_2 5 t135 t136 t137 w0 _ ?side1 ?side2 A3.out).mono ?_); (case side1 => repeat (first | (with_reducible first | exact HI0.out | apply IsS90.alloc | apply IsS90.drewN | apply IsS90.drew | apply IsS90.set_1 | apply IsS90.set_2 | refine IsS90.far ?_ NB0_134.out _) | exact HI0.out)); (case side2 => repeat (first | (with_reducible first | exact HB.out | apply below_alloc | apply pw_below_drewN | apply below_drew1 | refine below_set ?_ (IsS90.ge HI0.out) | refine below_set ?_ GE134.out) | exact HB.out)); rintro e w16 ⟨rfl, hi, hb, hk⟩; refine ⟨_, rfl, ?_⟩; have n0_ := Aside0.mk (KeepBut.blk hk (g' := gb134) (o := .cells #[.int .i64 0, .int .i64 0, .int .i64 0, .int .i64 0, .bool false] 27 (0, 0)) (kb BK134.out) NB134_0.out (by simp)); have n1_ := Aside0.mk (KeepBut.trans (kk1 HK.out GW134.out) hk (.inl rfl)); have n2_ := Aside0.mk (hb); have n3_ := Aside0.mk (hi); clear BK134; clear HK; clear HB; clear HI0; have BK134 := n0_; have HK := n1_; have HB := n2_; have HI0 := n3_; clear n0_ n1_ n2_ n3_; (try clear hb); (try clear hb2); (try clear hk); (try clear hi)))
  have n0_ := Aside0.mk (blk_drew BK134.out)
  have n1_ := Aside0.mk (IsS90.drew HI0.out)
  have n2_ := Aside0.mk (keep_drew HK.out)
  have n3_ := Aside0.mk (below_drew1 HB.out)
  clear BK134
  clear HI0
  clear HK
  clear HB
  have BK134 := n0_
  have HI0 := n1_
  have HK := n2_
  have HB := n3_
  clear n0_ n1_ n2_ n3_
  refine start_ (n := 23) (S := fun w' => True) (ds := []) (bm 23 0) (by kernel_rfl) rfl rfl trivial (fun hHeld => ?_); refine with_tabW spec_l1Cur_first.tab2 spec_l1Cur_first.bits2 (fun HT_ HW_ => ?_)
  generalize w16.drew = w17 at BK134 HI0 HK HB hHeld ⊢
  refine pureT_ 0 9 (bm 23 1) HT_.out ?_
  refine pureT_ 1 10 (bm 23 3) HT_.out ?_
  refine pureT_ 2 11 (bm 23 7) HT_.out ?_
  refine pureT_ 3 12 (bm 23 15) HT_.out ?_
  refine pureT_ 5 14 (bm 23 47) HT_.out ?_
  refine pureT_ 6 15 (bm 23 111) HT_.out ?_
  refine pureT_ 9 18 (bm 23 623) HT_.out ?_
  refine pureT_ 10 19 (bm 23 1647) HT_.out ?_
  refine pureT_ 12 21 (bm 23 5743) HT_.out ?_
  refine pureT_ 13 22 (bm 23 13935) HT_.out ?_
  refine pureT_ 14 23 (bm 23 30319) HT_.out ?_
  refine pureT_ 17 26 (bm 23 161391) HT_.out ?_
  refine join_ (σ := Nat) 1 (bm 23 4194303) (fun s_ => [(13, .int .i64 t138), (20, .int .i64 t141), (24, .int .i64 t144), (27, .bool t147), (6, .pointer (some ⟨s_, 0, none⟩)), (16, .int .i64 (wrap64 (t138 - (ji8)))), (17, .int .i64 (wrap64 ((wrap64 (t138 - (ji8))) - 1))), (25, .int .i64 (wrap64 (2 + t144))), (28, .agg #[.int .i64 (wrap64 (2 + t144)), .bool t147]), (29, .agg #[.int .i64 (wrap64 ((wrap64 (t138 - (ji8))) - 1)), .int .i64 t135, .int .i64 t141, .int .i64 (wrap64 (2 + t144)), .bool t147])]) (fun s_ w' => (w'.heap[gb134]? = some (.cells #[.int .i64 0, .int .i64 0, .int .i64 0, .int .i64 0, .bool false] 27 (0, 0))) ∧ (w'.heap[s_]? = some (.cells #[.int .i64 0, .int .i64 0, .int .i64 0, .int .i64 0, .bool false] 27 (0, 0))) ∧ (w.heap.size ≤ s_) ∧ (w0.heap.size ≤ s_) ∧ (g ≠ s_) ∧ (s_ ≠ g) ∧ (gb134 ≠ s_) ∧ (s_ ≠ gb134) ∧ (IsS90 w0 w' g s0_0 t148 t149) ∧ (KeepBut w w' g none) ∧ (Below w0.heap.size w0 w')) ?_ ?_
  rotate_left
  ·intro hJ4_11_15_18_21
   refine join_ (σ := Unit) 2 (bm 23 2097151) (fun s_ => [(13, .int .i64 t138), (20, .int .i64 t141), (24, .int .i64 t144), (27, .bool t147), (16, .int .i64 (wrap64 (t138 - (ji8)))), (17, .int .i64 (wrap64 ((wrap64 (t138 - (ji8))) - 1))), (25, .int .i64 (wrap64 (2 + t144))), (28, .agg #[.int .i64 (wrap64 (2 + t144)), .bool t147]), (29, .agg #[.int .i64 (wrap64 ((wrap64 (t138 - (ji8))) - 1)), .int .i64 t135, .int .i64 t141, .int .i64 (wrap64 (2 + t144)), .bool t147])]) (fun s_ w' => (w'.heap[gb134]? = some (.cells #[.int .i64 0, .int .i64 0, .int .i64 0, .int .i64 0, .bool false] 27 (0, 0))) ∧ (IsS90 w0 w' g s0_0 t148 t149) ∧ (KeepBut w w' g none) ∧ (Below w0.heap.size w0 w')) ?_ ?_
   rotate_left
   ·intro hJ4_11_15_18
    refine join_ (σ := Nat) 4 (bm 23 2359295) (fun s_ => [(13, .int .i64 t138), (20, .int .i64 t141), (24, .int .i64 t144), (6, .pointer (some ⟨s_, 0, none⟩)), (16, .int .i64 (wrap64 (t138 - (ji8)))), (17, .int .i64 (wrap64 ((wrap64 (t138 - (ji8))) - 1))), (25, .int .i64 (wrap64 (2 + t144)))]) (fun s_ w' => (w'.heap[gb134]? = some (.cells #[.int .i64 0, .int .i64 0, .int .i64 0, .int .i64 0, .bool false] 27 (0, 0))) ∧ (w'.heap[s_]? = some (.cells #[.int .i64 0, .int .i64 0, .int .i64 0, .int .i64 0, .bool false] 27 (0, 0))) ∧ (w.heap.size ≤ s_) ∧ (w0.heap.size ≤ s_) ∧ (g ≠ s_) ∧ (s_ ≠ g) ∧ (gb134 ≠ s_) ∧ (s_ ≠ gb134) ∧ (IsS90 w0 w' g s0_0 t145 t146) ∧ (KeepBut w w' g none) ∧ (Below w0.heap.size w0 w')) ?_ ?_
    rotate_left
    ·intro hJ4_11_15_21
     refine join_ (σ := Unit) 5 (bm 23 262143) (fun s_ => [(13, .int .i64 t138), (20, .int .i64 t141), (24, .int .i64 t144), (16, .int .i64 (wrap64 (t138 - (ji8)))), (17, .int .i64 (wrap64 ((wrap64 (t138 - (ji8))) - 1))), (25, .int .i64 (wrap64 (2 + t144)))]) (fun s_ w' => (w'.heap[gb134]? = some (.cells #[.int .i64 0, .int .i64 0, .int .i64 0, .int .i64 0, .bool false] 27 (0, 0))) ∧ (IsS90 w0 w' g s0_0 t145 t146) ∧ (KeepBut w w' g none) ∧ (Below w0.heap.size w0 w')) ?_ ?_
     rotate_left
     ·intro hJ4_11_15
      refine join_ (σ := Nat) 6 (bm 23 2260991) (fun s_ => [(13, .int .i64 t138), (20, .int .i64 t141), (6, .pointer (some ⟨s_, 0, none⟩)), (16, .int .i64 (wrap64 (t138 - (ji8)))), (17, .int .i64 (wrap64 ((wrap64 (t138 - (ji8))) - 1)))]) (fun s_ w' => (w'.heap[gb134]? = some (.cells #[.int .i64 0, .int .i64 0, .int .i64 0, .int .i64 0, .bool false] 27 (0, 0))) ∧ (w'.heap[s_]? = some (.cells #[.int .i64 0, .int .i64 0, .int .i64 0, .int .i64 0, .bool false] 27 (0, 0))) ∧ (w.heap.size ≤ s_) ∧ (w0.heap.size ≤ s_) ∧ (g ≠ s_) ∧ (s_ ≠ g) ∧ (gb134 ≠ s_) ∧ (s_ ≠ gb134) ∧ (IsS90 w0 w' g s0_0 t142 t143) ∧ (KeepBut w w' g none) ∧ (Below w0.heap.size w0 w')) ?_ ?_
      rotate_left
      ·intro hJ4_11_21
       refine join_ (σ := Unit) 7 (bm 23 163839) (fun s_ => [(13, .int .i64 t138), (20, .int .i64 t141), (16, .int .i64 (wrap64 (t138 - (ji8)))), (17, .int .i64 (wrap64 ((wrap64 (t138 - (ji8))) - 1)))]) (fun s_ w' => (w'.heap[gb134]? = some (.cells #[.int .i64 0, .int .i64 0, .int .i64 0, .int .i64 0, .bool false] 27 (0, 0))) ∧ (IsS90 w0 w' g s0_0 t142 t143) ∧ (KeepBut w w' g none) ∧ (Below w0.heap.size w0 w')) ?_ ?_
       rotate_left
       ·intro hJ4_11
        refine join_ (σ := Nat) 7 (bm 23 2258943) (fun s_ => [(13, .int .i64 t138), (6, .pointer (some ⟨s_, 0, none⟩)), (16, .int .i64 (wrap64 (t138 - (ji8)))), (17, .int .i64 (wrap64 ((wrap64 (t138 - (ji8))) - 1)))]) (fun s_ w' => (w'.heap[gb134]? = some (.cells #[.int .i64 0, .int .i64 0, .int .i64 0, .int .i64 0, .bool false] 27 (0, 0))) ∧ (w'.heap[s_]? = some (.cells #[.int .i64 0, .int .i64 0, .int .i64 0, .int .i64 0, .bool false] 27 (0, 0))) ∧ (w.heap.size ≤ s_) ∧ (w0.heap.size ≤ s_) ∧ (g ≠ s_) ∧ (s_ ≠ g) ∧ (gb134 ≠ s_) ∧ (s_ ≠ gb134) ∧ (IsS90 w0 w' g s0_0 t139 t140) ∧ (KeepBut w w' g none) ∧ (Below w0.heap.size w0 w')) ?_ ?_
        rotate_left
        ·intro hJ4_21
         refine join_ (σ := Unit) 8 (bm 23 161791) (fun s_ => [(13, .int .i64 t138), (16, .int .i64 (wrap64 (t138 - (ji8)))), (17, .int .i64 (wrap64 ((wrap64 (t138 - (ji8))) - 1)))]) (fun s_ w' => (w'.heap[gb134]? = some (.cells #[.int .i64 0, .int .i64 0, .int .i64 0, .int .i64 0, .bool false] 27 (0, 0))) ∧ (IsS90 w0 w' g s0_0 t139 t140) ∧ (KeepBut w w' g none) ∧ (Below w0.heap.size w0 w')) ?_ ?_
         rotate_left
         ·intro hJ4
          refine join_ (σ := Nat) 10 (bm 23 2258543) (fun s_ => [(6, .pointer (some ⟨s_, 0, none⟩))]) (fun s_ w' => (w'.heap[gb134]? = some (.cells #[.int .i64 0, .int .i64 0, .int .i64 0, .int .i64 0, .bool false] 27 (0, 0))) ∧ (w'.heap[s_]? = some (.cells #[.int .i64 0, .int .i64 0, .int .i64 0, .int .i64 0, .bool false] 27 (0, 0))) ∧ (w.heap.size ≤ s_) ∧ (w0.heap.size ≤ s_) ∧ (g ≠ s_) ∧ (s_ ≠ g) ∧ (gb134 ≠ s_) ∧ (s_ ≠ gb134) ∧ (IsS90 w0 w' g s0_0 t136 t137) ∧ (KeepBut w w' g none) ∧ (Below w0.heap.size w0 w')) ?_ ?_
          rotate_left
          ·intro hJ21
           refine two_ (i := 4) (j := 21) (Ni := some 13) (Nj := some 6) (bm 23 161407) (bm 23 2258543) rfl rfl rfl rfl (two_of HT_.out (by kernel_rfl)) (by decide) (by decide) (fun K hK => ?_) (fun K hK => ?_)
           ·skip
            refine goes_ Try.func157 (by kernel_rfl) rfl #[.pointer (some ⟨g, 0, none⟩), .int .i64 (wrap64 ((ji5) + 3))] (by rfl) rfl rfl (by (try simp only [List.map_toArray, List.map_cons, List.map_nil]); first | done | (simp only [hji5]; rfl) | rfl | (simp only [List.length_drop, List.length_take]; rfl)) ?_
            with_reducible refine (spec_l1Cur_pick.calls g s0_0 t136 t137 (wrap64 ((ji5) + 3)) t138 t139 t140 w0 _ ?side1 ?side2 A6.out).mono ?_
            (case side1 => repeat (first | (with_reducible first | exact HI0.out | apply IsS90.alloc | apply IsS90.drewN | apply IsS90.drew | apply IsS90.set_1 | apply IsS90.set_2 | refine IsS90.far ?_ NB0_134.out _) | exact HI0.out))
            (case side2 => repeat (first | (with_reducible first | exact HB.out | apply below_alloc | apply pw_below_drewN | apply below_drew1 | refine below_set ?_ (IsS90.ge HI0.out) | refine below_set ?_ GE134.out) | exact HB.out))
            rintro e w18 ⟨rfl, hi, hb, hk⟩
            refine ⟨_, rfl, ?_⟩
            have n0_ := Aside0.mk (KeepBut.blk hk (g' := gb134) (o := .cells #[.int .i64 0, .int .i64 0, .int .i64 0, .int .i64 0, .bool false] 27 (0, 0)) (kb BK134.out) NB134_0.out (by simp))
            have n1_ := Aside0.mk (KeepBut.trans (kk1 HK.out GW134.out) hk (.inl rfl))
            have n2_ := Aside0.mk (hb)
            have n3_ := Aside0.mk (hi)
            clear BK134
            clear HK
            clear HB
            clear HI0
            have BK134 := n0_
            have HK := n1_
            have HB := n2_
            have HI0 := n3_
            clear n0_ n1_ n2_ n3_
            (try clear hb)
            (try clear hb2)
            (try clear hk)
            (try clear hi)
            refine hK.out _ _ trivial (fun hHeld => ?_)
            clear hK K
            refine norm_ (a' := ?_) ?_ ?_
            rotate_left
            ·show Act.put _ (some 13) _ = _
             simp only [Act.put, List.setIfInBounds_toArray, List.set_cons_zero, List.set_cons_succ, i64_w, i32_w]
             rfl
            refine pureT_ 7 16 (bm 23 161535) HT_.out ?_
            refine pureT_ 8 17 (bm 23 161791) HT_.out ?_
            exact norm_ (by first | (simp only [putAll, Act.put, List.setIfInBounds_toArray, List.set_cons_zero, List.set_cons_succ]; done) | (simp only [putAll, Act.put, List.setIfInBounds_toArray, List.set_cons_zero, List.set_cons_succ]; rfl)) (hJ4 () _ ⟨(kb BK134.out), (by repeat (first | (with_reducible first | exact HI0.out | apply IsS90.alloc | apply IsS90.drewN | apply IsS90.drew | apply IsS90.set_1 | apply IsS90.set_2 | refine IsS90.far ?_ NB0_134.out _) | exact HI0.out)), (kk1 HK.out GW134.out), (bl2 HB.out (IsS90.ge HI0.out) GE134.out)⟩)
           ·skip
            refine box_step ?hg (N := 6) ?hd (cs := #[.int .i64 0, .int .i64 0, .int .i64 0, .int .i64 0, .bool false]) (t := 27) ?hr ?_; (case hd => rfl); (case hg => rfl); (case hr => first | (go_simp; done) | (go_simp; rfl))
            intro gb150 hg w18 hbox hb
            have n0_ := Aside0.mk (IsS90.below (by repeat (first | (with_reducible first | exact HI0.out | apply IsS90.alloc | apply IsS90.drewN | apply IsS90.drew | apply IsS90.set_1 | apply IsS90.set_2 | refine IsS90.far ?_ NB0_134.out _) | exact HI0.out)) hb)
            have n1_ := Aside0.mk (blk_below (g := gb134) (o := .cells #[.int .i64 0, .int .i64 0, .int .i64 0, .int .i64 0, .bool false] 27 (0, 0)) (kb BK134.out) hb)
            have n2_ := Aside0.mk (KeepBut.trans (kk1 HK.out GW134.out) (KeepBut.of_below hb g none) (.inl rfl))
            have n3_ := Aside0.mk (below_step (bl2 HB.out (IsS90.ge HI0.out) GE134.out) hb)
            have n4_ := Aside0.mk (hbox)
            have n5_ := Aside0.mk ((by rw [hg]; exact (keep_size (w := w) (g := g) (row := none) (kk1 HK.out GW134.out)) : w.heap.size ≤ gb150))
            have n6_ := Aside0.mk ((Nat.le_trans HW0.out (by rw [hg]; exact (keep_size (w := w) (g := g) (row := none) (kk1 HK.out GW134.out)) : w.heap.size ≤ gb150) : w0.heap.size ≤ gb150))
            have n7_ := Aside0.mk ((by rw [hg]; exact Nat.ne_of_lt (blk_lt (g := gb134) (o := .cells #[.int .i64 0, .int .i64 0, .int .i64 0, .int .i64 0, .bool false] 27 (0, 0)) (kb BK134.out)) : gb134 ≠ gb150))
            have n8_ := Aside0.mk ((by rw [hg]; exact Nat.ne_of_gt (blk_lt (g := gb134) (o := .cells #[.int .i64 0, .int .i64 0, .int .i64 0, .int .i64 0, .bool false] 27 (0, 0)) (kb BK134.out)) : gb150 ≠ gb134))
            have n9_ := Aside0.mk ((by rw [hg]; exact Nat.ne_of_lt (IsS90.lt (show IsS90 w0 _ g s0_0 t136 t137 from by repeat (first | (with_reducible first | exact HI0.out | apply IsS90.alloc | apply IsS90.drewN | apply IsS90.drew | apply IsS90.set_1 | apply IsS90.set_2 | refine IsS90.far ?_ NB0_134.out _) | exact HI0.out))) : g ≠ gb150))
            have n10_ := Aside0.mk ((by rw [hg]; exact Nat.ne_of_gt (IsS90.lt (show IsS90 w0 _ g s0_0 t136 t137 from by repeat (first | (with_reducible first | exact HI0.out | apply IsS90.alloc | apply IsS90.drewN | apply IsS90.drew | apply IsS90.set_1 | apply IsS90.set_2 | refine IsS90.far ?_ NB0_134.out _) | exact HI0.out))) : gb150 ≠ g))
            clear HI0
            clear BK134
            clear HK
            clear HB
            have HI0 := n0_
            have BK134 := n1_
            have HK := n2_
            have HB := n3_
            have BK150 := n4_
            have GW150 := n5_
            have GE150 := n6_
            have NB134_150 := n7_
            have NB150_134 := n8_
            have NB0_150 := n9_
            have NB150_0 := n10_
            clear n0_ n1_ n2_ n3_ n4_ n5_ n6_ n7_ n8_ n9_ n10_
            clear hb hbox hg
            refine hK.out _ _ trivial (fun hHeld => ?_)
            clear hK K
            refine norm_ (a' := ?_) ?_ ?_
            rotate_left
            ·show Act.put _ (some 6) _ = _
             simp only [Act.put, List.setIfInBounds_toArray, List.set_cons_zero, List.set_cons_succ, i64_w, i32_w]
             rfl
            exact norm_ (by first | (simp only [putAll, Act.put, List.setIfInBounds_toArray, List.set_cons_zero, List.set_cons_succ]; done) | (simp only [putAll, Act.put, List.setIfInBounds_toArray, List.set_cons_zero, List.set_cons_succ]; rfl)) (hJ21 (gb150) _ ⟨(kb BK134.out), (kb BK150.out), GW150.out, GE150.out, NB0_150.out, NB150_0.out, NB134_150.out, NB150_134.out, (by repeat (first | (with_reducible first | exact HI0.out | apply IsS90.alloc | apply IsS90.drewN | apply IsS90.drew | apply IsS90.set_1 | apply IsS90.set_2 | refine IsS90.far ?_ NB0_134.out _ | refine IsS90.far ?_ NB0_150.out _) | exact HI0.out)), (kk2 HK.out GW134.out GW150.out), (bl3 HB.out (IsS90.ge HI0.out) GE134.out GE150.out)⟩)
          ·skip
           rintro gb150 w19 ⟨h0_, h1_, h2_, h3_, h4_, h5_, h6_, h7_, h8_, h9_, h10_⟩
           have n0_ : Aside0 (w19.heap[gb134]? = some (.cells #[.int .i64 0, .int .i64 0, .int .i64 0, .int .i64 0, .bool false] 27 (0, 0))) := ⟨h0_⟩
           have n1_ : Aside0 (w19.heap[gb150]? = some (.cells #[.int .i64 0, .int .i64 0, .int .i64 0, .int .i64 0, .bool false] 27 (0, 0))) := ⟨h1_⟩
           have n2_ : Aside0 (w.heap.size ≤ gb150) := ⟨h2_⟩
           have n3_ : Aside0 (w0.heap.size ≤ gb150) := ⟨h3_⟩
           have n4_ : Aside0 (g ≠ gb150) := ⟨h4_⟩
           have n5_ : Aside0 (gb150 ≠ g) := ⟨h5_⟩
           have n6_ : Aside0 (gb134 ≠ gb150) := ⟨h6_⟩
           have n7_ : Aside0 (gb150 ≠ gb134) := ⟨h7_⟩
           have n8_ : Aside0 (IsS90 w0 w19 g s0_0 t136 t137) := ⟨h8_⟩
           have n9_ : Aside0 (KeepBut w w19 g none) := ⟨h9_⟩
           have n10_ : Aside0 (Below w0.heap.size w0 w19) := ⟨h10_⟩
           clear BK134
           clear HI0
           clear HK
           clear HB
           clear h0_ h1_ h2_ h3_ h4_ h5_ h6_ h7_ h8_ h9_ h10_
           have BK134 := n0_
           have BK150 := n1_
           have GW150 := n2_
           have GE150 := n3_
           have NB0_150 := n4_
           have NB150_0 := n5_
           have NB134_150 := n6_
           have NB150_134 := n7_
           have HI0 := n8_
           have HK := n9_
           have HB := n10_
           clear n0_ n1_ n2_ n3_ n4_ n5_ n6_ n7_ n8_ n9_ n10_
           have hHeld := trivial
           refine norm_ (a' := ?_) ?_ ?_
           rotate_left
           ·simp only [putAll, Act.put, List.setIfInBounds_toArray, List.set_cons_zero, List.set_cons_succ]
            rfl
           refine one_ (i := 4) (N := some 13) (bm 23 2258559) rfl rfl (one_of HT_.out (by kernel_rfl)) (by decide) (fun K hK => ?_)
           refine goes_ Try.func157 (by kernel_rfl) rfl #[.pointer (some ⟨g, 0, none⟩), .int .i64 (wrap64 ((ji5) + 3))] (by rfl) rfl rfl (by (try simp only [List.map_toArray, List.map_cons, List.map_nil]); first | done | (simp only [hji5]; rfl) | rfl | (simp only [List.length_drop, List.length_take]; rfl)) ?_
           with_reducible refine (spec_l1Cur_pick.calls g s0_0 t136 t137 (wrap64 ((ji5) + 3)) t138 t139 t140 w0 _ ?side1 ?side2 A6.out).mono ?_
           (case side1 => repeat (first | (with_reducible first | exact HI0.out | apply IsS90.alloc | apply IsS90.drewN | apply IsS90.drew | apply IsS90.set_1 | apply IsS90.set_2 | refine IsS90.far ?_ NB0_134.out _ | refine IsS90.far ?_ NB0_150.out _) | exact HI0.out))
           (case side2 => repeat (first | (with_reducible first | exact HB.out | apply below_alloc | apply pw_below_drewN | apply below_drew1 | refine below_set ?_ (IsS90.ge HI0.out) | refine below_set ?_ GE134.out | refine below_set ?_ GE150.out) | exact HB.out))
           rintro e w20 ⟨rfl, hi, hb, hk⟩
           refine ⟨_, rfl, ?_⟩
           have n0_ := Aside0.mk (KeepBut.blk hk (g' := gb134) (o := .cells #[.int .i64 0, .int .i64 0, .int .i64 0, .int .i64 0, .bool false] 27 (0, 0)) (kb BK134.out) NB134_0.out (by simp))
           have n1_ := Aside0.mk (KeepBut.blk hk (g' := gb150) (o := .cells #[.int .i64 0, .int .i64 0, .int .i64 0, .int .i64 0, .bool false] 27 (0, 0)) (kb BK150.out) NB150_0.out (by simp))
           have n2_ := Aside0.mk (KeepBut.trans (kk2 HK.out GW134.out GW150.out) hk (.inl rfl))
           have n3_ := Aside0.mk (hb)
           have n4_ := Aside0.mk (hi)
           clear BK134
           clear BK150
           clear HK
           clear HB
           clear HI0
           have BK134 := n0_
           have BK150 := n1_
           have HK := n2_
           have HB := n3_
           have HI0 := n4_
           clear n0_ n1_ n2_ n3_ n4_
           (try clear hb)
           (try clear hb2)
           (try clear hk)
           (try clear hi)
           refine hK.out _ _ trivial (fun hHeld => ?_)
           clear hK K
           refine norm_ (a' := ?_) ?_ ?_
           rotate_left
           ·show Act.put _ (some 13) _ = _
            simp only [Act.put, List.setIfInBounds_toArray, List.set_cons_zero, List.set_cons_succ, i64_w, i32_w]
            rfl
           refine pureT_ 7 16 (bm 23 2258687) HT_.out ?_
           refine pureT_ 8 17 (bm 23 2258943) HT_.out ?_
           exact norm_ (by first | (simp only [putAll, Act.put, List.setIfInBounds_toArray, List.set_cons_zero, List.set_cons_succ]; done) | (simp only [putAll, Act.put, List.setIfInBounds_toArray, List.set_cons_zero, List.set_cons_succ]; rfl)) (hJ4_21 (gb150) _ ⟨(kb BK134.out), (kb BK150.out), GW150.out, GE150.out, NB0_150.out, NB150_0.out, NB134_150.out, NB150_134.out, (by repeat (first | (with_reducible first | exact HI0.out | apply IsS90.alloc | apply IsS90.drewN | apply IsS90.drew | apply IsS90.set_1 | apply IsS90.set_2 | refine IsS90.far ?_ NB0_134.out _ | refine IsS90.far ?_ NB0_150.out _) | exact HI0.out)), (kk2 HK.out GW134.out GW150.out), (bl3 HB.out (IsS90.ge HI0.out) GE134.out GE150.out)⟩)
         ·skip
          rintro _ w19 ⟨h0_, h1_, h2_, h3_⟩
          have n0_ : Aside0 (w19.heap[gb134]? = some (.cells #[.int .i64 0, .int .i64 0, .int .i64 0, .int .i64 0, .bool false] 27 (0, 0))) := ⟨h0_⟩
          have n1_ : Aside0 (IsS90 w0 w19 g s0_0 t139 t140) := ⟨h1_⟩
          have n2_ : Aside0 (KeepBut w w19 g none) := ⟨h2_⟩
          have n3_ : Aside0 (Below w0.heap.size w0 w19) := ⟨h3_⟩
          clear BK134
          clear HI0
          clear HK
          clear HB
          clear h0_ h1_ h2_ h3_
          have BK134 := n0_
          have HI0 := n1_
          have HK := n2_
          have HB := n3_
          clear n0_ n1_ n2_ n3_
          have hHeld := trivial
          refine norm_ (a' := ?_) ?_ ?_
          rotate_left
          ·simp only [putAll, Act.put, List.setIfInBounds_toArray, List.set_cons_zero, List.set_cons_succ]
           rfl
          refine two_ (i := 11) (j := 21) (Ni := some 20) (Nj := some 6) (bm 23 163839) (bm 23 2258943) rfl rfl rfl rfl (two_of HT_.out (by kernel_rfl)) (by decide) (by decide) (fun K hK => ?_) (fun K hK => ?_)
          ·skip
           refine goesS_ Try.func157 #[.pointer (some ⟨g, 0, none⟩), .int .i64 3] ?_
           with_reducible refine (spec_l1Cur_pick.calls g s0_0 t139 t140 3 t141 t142 t143 w0 _ ?side1 ?side2 A9.out).mono ?_
           (case side1 => repeat (first | (with_reducible first | exact HI0.out | apply IsS90.alloc | apply IsS90.drewN | apply IsS90.drew | apply IsS90.set_1 | apply IsS90.set_2 | refine IsS90.far ?_ NB0_134.out _) | exact HI0.out))
           (case side2 => repeat (first | (with_reducible first | exact HB.out | apply below_alloc | apply pw_below_drewN | apply below_drew1 | refine below_set ?_ (IsS90.ge HI0.out) | refine below_set ?_ GE134.out) | exact HB.out))
           rintro e w20 ⟨rfl, hi, hb, hk⟩
           refine ⟨_, rfl, ?_⟩
           have n0_ := Aside0.mk (KeepBut.blk hk (g' := gb134) (o := .cells #[.int .i64 0, .int .i64 0, .int .i64 0, .int .i64 0, .bool false] 27 (0, 0)) (kb BK134.out) NB134_0.out (by simp))
           have n1_ := Aside0.mk (KeepBut.trans (kk1 HK.out GW134.out) hk (.inl rfl))
           have n2_ := Aside0.mk (hb)
           have n3_ := Aside0.mk (hi)
           clear BK134
           clear HK
           clear HB
           clear HI0
           have BK134 := n0_
           have HK := n1_
           have HB := n2_
           have HI0 := n3_
           clear n0_ n1_ n2_ n3_
           (try clear hb)
           (try clear hb2)
           (try clear hk)
           (try clear hi)
           refine hK.out _ _ trivial (fun hHeld => ?_)
           clear hK K
           refine norm_ (a' := ?_) ?_ ?_
           rotate_left
           ·show Act.put _ (some 20) _ = _
            simp only [Act.put, List.setIfInBounds_toArray, List.set_cons_zero, List.set_cons_succ, i64_w, i32_w]
            rfl
           exact norm_ (by first | (simp only [putAll, Act.put, List.setIfInBounds_toArray, List.set_cons_zero, List.set_cons_succ]; done) | (simp only [putAll, Act.put, List.setIfInBounds_toArray, List.set_cons_zero, List.set_cons_succ]; rfl)) (hJ4_11 () _ ⟨(kb BK134.out), (by repeat (first | (with_reducible first | exact HI0.out | apply IsS90.alloc | apply IsS90.drewN | apply IsS90.drew | apply IsS90.set_1 | apply IsS90.set_2 | refine IsS90.far ?_ NB0_134.out _) | exact HI0.out)), (kk1 HK.out GW134.out), (bl2 HB.out (IsS90.ge HI0.out) GE134.out)⟩)
          ·skip
           refine box_step ?hg (N := 6) ?hd (cs := #[.int .i64 0, .int .i64 0, .int .i64 0, .int .i64 0, .bool false]) (t := 27) ?hr ?_; (case hd => rfl); (case hg => rfl); (case hr => first | (go_simp; done) | (go_simp; rfl))
           intro gb150 hg w20 hbox hb
           have n0_ := Aside0.mk (IsS90.below (by repeat (first | (with_reducible first | exact HI0.out | apply IsS90.alloc | apply IsS90.drewN | apply IsS90.drew | apply IsS90.set_1 | apply IsS90.set_2 | refine IsS90.far ?_ NB0_134.out _) | exact HI0.out)) hb)
           have n1_ := Aside0.mk (blk_below (g := gb134) (o := .cells #[.int .i64 0, .int .i64 0, .int .i64 0, .int .i64 0, .bool false] 27 (0, 0)) (kb BK134.out) hb)
           have n2_ := Aside0.mk (KeepBut.trans (kk1 HK.out GW134.out) (KeepBut.of_below hb g none) (.inl rfl))
           have n3_ := Aside0.mk (below_step (bl2 HB.out (IsS90.ge HI0.out) GE134.out) hb)
           have n4_ := Aside0.mk (hbox)
           have n5_ := Aside0.mk ((by rw [hg]; exact (keep_size (w := w) (g := g) (row := none) (kk1 HK.out GW134.out)) : w.heap.size ≤ gb150))
           have n6_ := Aside0.mk ((Nat.le_trans HW0.out (by rw [hg]; exact (keep_size (w := w) (g := g) (row := none) (kk1 HK.out GW134.out)) : w.heap.size ≤ gb150) : w0.heap.size ≤ gb150))
           have n7_ := Aside0.mk ((by rw [hg]; exact Nat.ne_of_lt (blk_lt (g := gb134) (o := .cells #[.int .i64 0, .int .i64 0, .int .i64 0, .int .i64 0, .bool false] 27 (0, 0)) (kb BK134.out)) : gb134 ≠ gb150))
           have n8_ := Aside0.mk ((by rw [hg]; exact Nat.ne_of_gt (blk_lt (g := gb134) (o := .cells #[.int .i64 0, .int .i64 0, .int .i64 0, .int .i64 0, .bool false] 27 (0, 0)) (kb BK134.out)) : gb150 ≠ gb134))
           have n9_ := Aside0.mk ((by rw [hg]; exact Nat.ne_of_lt (IsS90.lt (show IsS90 w0 _ g s0_0 t139 t140 from by repeat (first | (with_reducible first | exact HI0.out | apply IsS90.alloc | apply IsS90.drewN | apply IsS90.drew | apply IsS90.set_1 | apply IsS90.set_2 | refine IsS90.far ?_ NB0_134.out _) | exact HI0.out))) : g ≠ gb150))
           have n10_ := Aside0.mk ((by rw [hg]; exact Nat.ne_of_gt (IsS90.lt (show IsS90 w0 _ g s0_0 t139 t140 from by repeat (first | (with_reducible first | exact HI0.out | apply IsS90.alloc | apply IsS90.drewN | apply IsS90.drew | apply IsS90.set_1 | apply IsS90.set_2 | refine IsS90.far ?_ NB0_134.out _) | exact HI0.out))) : gb150 ≠ g))
           clear HI0
           clear BK134
           clear HK
           clear HB
           have HI0 := n0_
           have BK134 := n1_
           have HK := n2_
           have HB := n3_
           have BK150 := n4_
           have GW150 := n5_
           have GE150 := n6_
           have NB134_150 := n7_
           have NB150_134 := n8_
           have NB0_150 := n9_
           have NB150_0 := n10_
           clear n0_ n1_ n2_ n3_ n4_ n5_ n6_ n7_ n8_ n9_ n10_
           clear hb hbox hg
           refine hK.out _ _ trivial (fun hHeld => ?_)
           clear hK K
           refine norm_ (a' := ?_) ?_ ?_
           rotate_left
           ·show Act.put _ (some 6) _ = _
            simp only [Act.put, List.setIfInBounds_toArray, List.set_cons_zero, List.set_cons_succ, i64_w, i32_w]
            rfl
           exact norm_ (by first | (simp only [putAll, Act.put, List.setIfInBounds_toArray, List.set_cons_zero, List.set_cons_succ]; done) | (simp only [putAll, Act.put, List.setIfInBounds_toArray, List.set_cons_zero, List.set_cons_succ]; rfl)) (hJ4_21 (gb150) _ ⟨(kb BK134.out), (kb BK150.out), GW150.out, GE150.out, NB0_150.out, NB150_0.out, NB134_150.out, NB150_134.out, (by repeat (first | (with_reducible first | exact HI0.out | apply IsS90.alloc | apply IsS90.drewN | apply IsS90.drew | apply IsS90.set_1 | apply IsS90.set_2 | refine IsS90.far ?_ NB0_134.out _ | refine IsS90.far ?_ NB0_150.out _) | exact HI0.out)), (kk2 HK.out GW134.out GW150.out), (bl3 HB.out (IsS90.ge HI0.out) GE134.out GE150.out)⟩)
        ·skip
         rintro gb150 w20 ⟨h0_, h1_, h2_, h3_, h4_, h5_, h6_, h7_, h8_, h9_, h10_⟩
         have n0_ : Aside0 (w20.heap[gb134]? = some (.cells #[.int .i64 0, .int .i64 0, .int .i64 0, .int .i64 0, .bool false] 27 (0, 0))) := ⟨h0_⟩
         have n1_ : Aside0 (w20.heap[gb150]? = some (.cells #[.int .i64 0, .int .i64 0, .int .i64 0, .int .i64 0, .bool false] 27 (0, 0))) := ⟨h1_⟩
         have n2_ : Aside0 (w.heap.size ≤ gb150) := ⟨h2_⟩
         have n3_ : Aside0 (w0.heap.size ≤ gb150) := ⟨h3_⟩
         have n4_ : Aside0 (g ≠ gb150) := ⟨h4_⟩
         have n5_ : Aside0 (gb150 ≠ g) := ⟨h5_⟩
         have n6_ : Aside0 (gb134 ≠ gb150) := ⟨h6_⟩
         have n7_ : Aside0 (gb150 ≠ gb134) := ⟨h7_⟩
         have n8_ : Aside0 (IsS90 w0 w20 g s0_0 t139 t140) := ⟨h8_⟩
         have n9_ : Aside0 (KeepBut w w20 g none) := ⟨h9_⟩
         have n10_ : Aside0 (Below w0.heap.size w0 w20) := ⟨h10_⟩
         clear BK134
         clear HI0
         clear HK
         clear HB
         clear h0_ h1_ h2_ h3_ h4_ h5_ h6_ h7_ h8_ h9_ h10_
         have BK134 := n0_
         have BK150 := n1_
         have GW150 := n2_
         have GE150 := n3_
         have NB0_150 := n4_
         have NB150_0 := n5_
         have NB134_150 := n6_
         have NB150_134 := n7_
         have HI0 := n8_
         have HK := n9_
         have HB := n10_
         clear n0_ n1_ n2_ n3_ n4_ n5_ n6_ n7_ n8_ n9_ n10_
         have hHeld := trivial
         refine norm_ (a' := ?_) ?_ ?_
         rotate_left
         ·simp only [putAll, Act.put, List.setIfInBounds_toArray, List.set_cons_zero, List.set_cons_succ]
          rfl
         refine one_ (i := 11) (N := some 20) (bm 23 2260991) rfl rfl (one_of HT_.out (by kernel_rfl)) (by decide) (fun K hK => ?_)
         refine goesS_ Try.func157 #[.pointer (some ⟨g, 0, none⟩), .int .i64 3] ?_
         with_reducible refine (spec_l1Cur_pick.calls g s0_0 t139 t140 3 t141 t142 t143 w0 _ ?side1 ?side2 A9.out).mono ?_
         (case side1 => repeat (first | (with_reducible first | exact HI0.out | apply IsS90.alloc | apply IsS90.drewN | apply IsS90.drew | apply IsS90.set_1 | apply IsS90.set_2 | refine IsS90.far ?_ NB0_134.out _ | refine IsS90.far ?_ NB0_150.out _) | exact HI0.out))
         (case side2 => repeat (first | (with_reducible first | exact HB.out | apply below_alloc | apply pw_below_drewN | apply below_drew1 | refine below_set ?_ (IsS90.ge HI0.out) | refine below_set ?_ GE134.out | refine below_set ?_ GE150.out) | exact HB.out))
         rintro e w21 ⟨rfl, hi, hb, hk⟩
         refine ⟨_, rfl, ?_⟩
         have n0_ := Aside0.mk (KeepBut.blk hk (g' := gb134) (o := .cells #[.int .i64 0, .int .i64 0, .int .i64 0, .int .i64 0, .bool false] 27 (0, 0)) (kb BK134.out) NB134_0.out (by simp))
         have n1_ := Aside0.mk (KeepBut.blk hk (g' := gb150) (o := .cells #[.int .i64 0, .int .i64 0, .int .i64 0, .int .i64 0, .bool false] 27 (0, 0)) (kb BK150.out) NB150_0.out (by simp))
         have n2_ := Aside0.mk (KeepBut.trans (kk2 HK.out GW134.out GW150.out) hk (.inl rfl))
         have n3_ := Aside0.mk (hb)
         have n4_ := Aside0.mk (hi)
         clear BK134
         clear BK150
         clear HK
         clear HB
         clear HI0
         have BK134 := n0_
         have BK150 := n1_
         have HK := n2_
         have HB := n3_
         have HI0 := n4_
         clear n0_ n1_ n2_ n3_ n4_
         (try clear hb)
         (try clear hb2)
         (try clear hk)
         (try clear hi)
         refine hK.out _ _ trivial (fun hHeld => ?_)
         clear hK K
         refine norm_ (a' := ?_) ?_ ?_
         rotate_left
         ·show Act.put _ (some 20) _ = _
          simp only [Act.put, List.setIfInBounds_toArray, List.set_cons_zero, List.set_cons_succ, i64_w, i32_w]
          rfl
         exact norm_ (by first | (simp only [putAll, Act.put, List.setIfInBounds_toArray, List.set_cons_zero, List.set_cons_succ]; done) | (simp only [putAll, Act.put, List.setIfInBounds_toArray, List.set_cons_zero, List.set_cons_succ]; rfl)) (hJ4_11_21 (gb150) _ ⟨(kb BK134.out), (kb BK150.out), GW150.out, GE150.out, NB0_150.out, NB150_0.out, NB134_150.out, NB150_134.out, (by repeat (first | (with_reducible first | exact HI0.out | apply IsS90.alloc | apply IsS90.drewN | apply IsS90.drew | apply IsS90.set_1 | apply IsS90.set_2 | refine IsS90.far ?_ NB0_134.out _ | refine IsS90.far ?_ NB0_150.out _) | exact HI0.out)), (kk2 HK.out GW134.out GW150.out), (bl3 HB.out (IsS90.ge HI0.out) GE134.out GE150.out)⟩)
       ·skip
        rintro _ w20 ⟨h0_, h1_, h2_, h3_⟩
        have n0_ : Aside0 (w20.heap[gb134]? = some (.cells #[.int .i64 0, .int .i64 0, .int .i64 0, .int .i64 0, .bool false] 27 (0, 0))) := ⟨h0_⟩
        have n1_ : Aside0 (IsS90 w0 w20 g s0_0 t142 t143) := ⟨h1_⟩
        have n2_ : Aside0 (KeepBut w w20 g none) := ⟨h2_⟩
        have n3_ : Aside0 (Below w0.heap.size w0 w20) := ⟨h3_⟩
        clear BK134
        clear HI0
        clear HK
        clear HB
        clear h0_ h1_ h2_ h3_
        have BK134 := n0_
        have HI0 := n1_
        have HK := n2_
        have HB := n3_
        clear n0_ n1_ n2_ n3_
        have hHeld := trivial
        refine norm_ (a' := ?_) ?_ ?_
        rotate_left
        ·simp only [putAll, Act.put, List.setIfInBounds_toArray, List.set_cons_zero, List.set_cons_succ]
         rfl
        refine two_ (i := 15) (j := 21) (Ni := some 24) (Nj := some 6) (bm 23 196607) (bm 23 2260991) rfl rfl rfl rfl (two_of HT_.out (by kernel_rfl)) (by decide) (by decide) (fun K hK => ?_) (fun K hK => ?_)
        ·skip
         refine goesS_ Try.func157 #[.pointer (some ⟨g, 0, none⟩), .int .i64 (wrap64 (a1 - 1))] ?_
         with_reducible refine (spec_l1Cur_pick.calls g s0_0 t142 t143 (wrap64 (a1 - 1)) t144 t145 t146 w0 _ ?side1 ?side2 A10.out).mono ?_
         (case side1 => repeat (first | (with_reducible first | exact HI0.out | apply IsS90.alloc | apply IsS90.drewN | apply IsS90.drew | apply IsS90.set_1 | apply IsS90.set_2 | refine IsS90.far ?_ NB0_134.out _) | exact HI0.out))
         (case side2 => repeat (first | (with_reducible first | exact HB.out | apply below_alloc | apply pw_below_drewN | apply below_drew1 | refine below_set ?_ (IsS90.ge HI0.out) | refine below_set ?_ GE134.out) | exact HB.out))
         rintro e w21 ⟨rfl, hi, hb, hk⟩
         refine ⟨_, rfl, ?_⟩
         have n0_ := Aside0.mk (KeepBut.blk hk (g' := gb134) (o := .cells #[.int .i64 0, .int .i64 0, .int .i64 0, .int .i64 0, .bool false] 27 (0, 0)) (kb BK134.out) NB134_0.out (by simp))
         have n1_ := Aside0.mk (KeepBut.trans (kk1 HK.out GW134.out) hk (.inl rfl))
         have n2_ := Aside0.mk (hb)
         have n3_ := Aside0.mk (hi)
         clear BK134
         clear HK
         clear HB
         clear HI0
         have BK134 := n0_
         have HK := n1_
         have HB := n2_
         have HI0 := n3_
         clear n0_ n1_ n2_ n3_
         (try clear hb)
         (try clear hb2)
         (try clear hk)
         (try clear hi)
         refine hK.out _ _ trivial (fun hHeld => ?_)
         clear hK K
         refine norm_ (a' := ?_) ?_ ?_
         rotate_left
         ·show Act.put _ (some 24) _ = _
          simp only [Act.put, List.setIfInBounds_toArray, List.set_cons_zero, List.set_cons_succ, i64_w, i32_w]
          rfl
         refine pureT_ 16 25 (bm 23 262143) HT_.out ?_
         exact norm_ (by first | (simp only [putAll, Act.put, List.setIfInBounds_toArray, List.set_cons_zero, List.set_cons_succ]; done) | (simp only [putAll, Act.put, List.setIfInBounds_toArray, List.set_cons_zero, List.set_cons_succ]; rfl)) (hJ4_11_15 () _ ⟨(kb BK134.out), (by repeat (first | (with_reducible first | exact HI0.out | apply IsS90.alloc | apply IsS90.drewN | apply IsS90.drew | apply IsS90.set_1 | apply IsS90.set_2 | refine IsS90.far ?_ NB0_134.out _) | exact HI0.out)), (kk1 HK.out GW134.out), (bl2 HB.out (IsS90.ge HI0.out) GE134.out)⟩)
        ·skip
         refine box_step ?hg (N := 6) ?hd (cs := #[.int .i64 0, .int .i64 0, .int .i64 0, .int .i64 0, .bool false]) (t := 27) ?hr ?_; (case hd => rfl); (case hg => rfl); (case hr => first | (go_simp; done) | (go_simp; rfl))
         intro gb150 hg w21 hbox hb
         have n0_ := Aside0.mk (IsS90.below (by repeat (first | (with_reducible first | exact HI0.out | apply IsS90.alloc | apply IsS90.drewN | apply IsS90.drew | apply IsS90.set_1 | apply IsS90.set_2 | refine IsS90.far ?_ NB0_134.out _) | exact HI0.out)) hb)
         have n1_ := Aside0.mk (blk_below (g := gb134) (o := .cells #[.int .i64 0, .int .i64 0, .int .i64 0, .int .i64 0, .bool false] 27 (0, 0)) (kb BK134.out) hb)
         have n2_ := Aside0.mk (KeepBut.trans (kk1 HK.out GW134.out) (KeepBut.of_below hb g none) (.inl rfl))
         have n3_ := Aside0.mk (below_step (bl2 HB.out (IsS90.ge HI0.out) GE134.out) hb)
         have n4_ := Aside0.mk (hbox)
         have n5_ := Aside0.mk ((by rw [hg]; exact (keep_size (w := w) (g := g) (row := none) (kk1 HK.out GW134.out)) : w.heap.size ≤ gb150))
         have n6_ := Aside0.mk ((Nat.le_trans HW0.out (by rw [hg]; exact (keep_size (w := w) (g := g) (row := none) (kk1 HK.out GW134.out)) : w.heap.size ≤ gb150) : w0.heap.size ≤ gb150))
         have n7_ := Aside0.mk ((by rw [hg]; exact Nat.ne_of_lt (blk_lt (g := gb134) (o := .cells #[.int .i64 0, .int .i64 0, .int .i64 0, .int .i64 0, .bool false] 27 (0, 0)) (kb BK134.out)) : gb134 ≠ gb150))
         have n8_ := Aside0.mk ((by rw [hg]; exact Nat.ne_of_gt (blk_lt (g := gb134) (o := .cells #[.int .i64 0, .int .i64 0, .int .i64 0, .int .i64 0, .bool false] 27 (0, 0)) (kb BK134.out)) : gb150 ≠ gb134))
         have n9_ := Aside0.mk ((by rw [hg]; exact Nat.ne_of_lt (IsS90.lt (show IsS90 w0 _ g s0_0 t142 t143 from by repeat (first | (with_reducible first | exact HI0.out | apply IsS90.alloc | apply IsS90.drewN | apply IsS90.drew | apply IsS90.set_1 | apply IsS90.set_2 | refine IsS90.far ?_ NB0_134.out _) | exact HI0.out))) : g ≠ gb150))
         have n10_ := Aside0.mk ((by rw [hg]; exact Nat.ne_of_gt (IsS90.lt (show IsS90 w0 _ g s0_0 t142 t143 from by repeat (first | (with_reducible first | exact HI0.out | apply IsS90.alloc | apply IsS90.drewN | apply IsS90.drew | apply IsS90.set_1 | apply IsS90.set_2 | refine IsS90.far ?_ NB0_134.out _) | exact HI0.out))) : gb150 ≠ g))
         clear HI0
         clear BK134
         clear HK
         clear HB
         have HI0 := n0_
         have BK134 := n1_
         have HK := n2_
         have HB := n3_
         have BK150 := n4_
         have GW150 := n5_
         have GE150 := n6_
         have NB134_150 := n7_
         have NB150_134 := n8_
         have NB0_150 := n9_
         have NB150_0 := n10_
         clear n0_ n1_ n2_ n3_ n4_ n5_ n6_ n7_ n8_ n9_ n10_
         clear hb hbox hg
         refine hK.out _ _ trivial (fun hHeld => ?_)
         clear hK K
         refine norm_ (a' := ?_) ?_ ?_
         rotate_left
         ·show Act.put _ (some 6) _ = _
          simp only [Act.put, List.setIfInBounds_toArray, List.set_cons_zero, List.set_cons_succ, i64_w, i32_w]
          rfl
         exact norm_ (by first | (simp only [putAll, Act.put, List.setIfInBounds_toArray, List.set_cons_zero, List.set_cons_succ]; done) | (simp only [putAll, Act.put, List.setIfInBounds_toArray, List.set_cons_zero, List.set_cons_succ]; rfl)) (hJ4_11_21 (gb150) _ ⟨(kb BK134.out), (kb BK150.out), GW150.out, GE150.out, NB0_150.out, NB150_0.out, NB134_150.out, NB150_134.out, (by repeat (first | (with_reducible first | exact HI0.out | apply IsS90.alloc | apply IsS90.drewN | apply IsS90.drew | apply IsS90.set_1 | apply IsS90.set_2 | refine IsS90.far ?_ NB0_134.out _ | refine IsS90.far ?_ NB0_150.out _) | exact HI0.out)), (kk2 HK.out GW134.out GW150.out), (bl3 HB.out (IsS90.ge HI0.out) GE134.out GE150.out)⟩)
      ·skip
       rintro gb150 w21 ⟨h0_, h1_, h2_, h3_, h4_, h5_, h6_, h7_, h8_, h9_, h10_⟩
       have n0_ : Aside0 (w21.heap[gb134]? = some (.cells #[.int .i64 0, .int .i64 0, .int .i64 0, .int .i64 0, .bool false] 27 (0, 0))) := ⟨h0_⟩
       have n1_ : Aside0 (w21.heap[gb150]? = some (.cells #[.int .i64 0, .int .i64 0, .int .i64 0, .int .i64 0, .bool false] 27 (0, 0))) := ⟨h1_⟩
       have n2_ : Aside0 (w.heap.size ≤ gb150) := ⟨h2_⟩
       have n3_ : Aside0 (w0.heap.size ≤ gb150) := ⟨h3_⟩
       have n4_ : Aside0 (g ≠ gb150) := ⟨h4_⟩
       have n5_ : Aside0 (gb150 ≠ g) := ⟨h5_⟩
       have n6_ : Aside0 (gb134 ≠ gb150) := ⟨h6_⟩
       have n7_ : Aside0 (gb150 ≠ gb134) := ⟨h7_⟩
       have n8_ : Aside0 (IsS90 w0 w21 g s0_0 t142 t143) := ⟨h8_⟩
       have n9_ : Aside0 (KeepBut w w21 g none) := ⟨h9_⟩
       have n10_ : Aside0 (Below w0.heap.size w0 w21) := ⟨h10_⟩
       clear BK134
       clear HI0
       clear HK
       clear HB
       clear h0_ h1_ h2_ h3_ h4_ h5_ h6_ h7_ h8_ h9_ h10_
       have BK134 := n0_
       have BK150 := n1_
       have GW150 := n2_
       have GE150 := n3_
       have NB0_150 := n4_
       have NB150_0 := n5_
       have NB134_150 := n6_
       have NB150_134 := n7_
       have HI0 := n8_
       have HK := n9_
       have HB := n10_
       clear n0_ n1_ n2_ n3_ n4_ n5_ n6_ n7_ n8_ n9_ n10_
       have hHeld := trivial
       refine norm_ (a' := ?_) ?_ ?_
       rotate_left
       ·simp only [putAll, Act.put, List.setIfInBounds_toArray, List.set_cons_zero, List.set_cons_succ]
        rfl
       refine one_ (i := 15) (N := some 24) (bm 23 2293759) rfl rfl (one_of HT_.out (by kernel_rfl)) (by decide) (fun K hK => ?_)
       refine goesS_ Try.func157 #[.pointer (some ⟨g, 0, none⟩), .int .i64 (wrap64 (a1 - 1))] ?_
       with_reducible refine (spec_l1Cur_pick.calls g s0_0 t142 t143 (wrap64 (a1 - 1)) t144 t145 t146 w0 _ ?side1 ?side2 A10.out).mono ?_
       (case side1 => repeat (first | (with_reducible first | exact HI0.out | apply IsS90.alloc | apply IsS90.drewN | apply IsS90.drew | apply IsS90.set_1 | apply IsS90.set_2 | refine IsS90.far ?_ NB0_134.out _ | refine IsS90.far ?_ NB0_150.out _) | exact HI0.out))
       (case side2 => repeat (first | (with_reducible first | exact HB.out | apply below_alloc | apply pw_below_drewN | apply below_drew1 | refine below_set ?_ (IsS90.ge HI0.out) | refine below_set ?_ GE134.out | refine below_set ?_ GE150.out) | exact HB.out))
       rintro e w22 ⟨rfl, hi, hb, hk⟩
       refine ⟨_, rfl, ?_⟩
       have n0_ := Aside0.mk (KeepBut.blk hk (g' := gb134) (o := .cells #[.int .i64 0, .int .i64 0, .int .i64 0, .int .i64 0, .bool false] 27 (0, 0)) (kb BK134.out) NB134_0.out (by simp))
       have n1_ := Aside0.mk (KeepBut.blk hk (g' := gb150) (o := .cells #[.int .i64 0, .int .i64 0, .int .i64 0, .int .i64 0, .bool false] 27 (0, 0)) (kb BK150.out) NB150_0.out (by simp))
       have n2_ := Aside0.mk (KeepBut.trans (kk2 HK.out GW134.out GW150.out) hk (.inl rfl))
       have n3_ := Aside0.mk (hb)
       have n4_ := Aside0.mk (hi)
       clear BK134
       clear BK150
       clear HK
       clear HB
       clear HI0
       have BK134 := n0_
       have BK150 := n1_
       have HK := n2_
       have HB := n3_
       have HI0 := n4_
       clear n0_ n1_ n2_ n3_ n4_
       (try clear hb)
       (try clear hb2)
       (try clear hk)
       (try clear hi)
       refine hK.out _ _ trivial (fun hHeld => ?_)
       clear hK K
       refine norm_ (a' := ?_) ?_ ?_
       rotate_left
       ·show Act.put _ (some 24) _ = _
        simp only [Act.put, List.setIfInBounds_toArray, List.set_cons_zero, List.set_cons_succ, i64_w, i32_w]
        rfl
       refine pureT_ 16 25 (bm 23 2359295) HT_.out ?_
       exact norm_ (by first | (simp only [putAll, Act.put, List.setIfInBounds_toArray, List.set_cons_zero, List.set_cons_succ]; done) | (simp only [putAll, Act.put, List.setIfInBounds_toArray, List.set_cons_zero, List.set_cons_succ]; rfl)) (hJ4_11_15_21 (gb150) _ ⟨(kb BK134.out), (kb BK150.out), GW150.out, GE150.out, NB0_150.out, NB150_0.out, NB134_150.out, NB150_134.out, (by repeat (first | (with_reducible first | exact HI0.out | apply IsS90.alloc | apply IsS90.drewN | apply IsS90.drew | apply IsS90.set_1 | apply IsS90.set_2 | refine IsS90.far ?_ NB0_134.out _ | refine IsS90.far ?_ NB0_150.out _) | exact HI0.out)), (kk2 HK.out GW134.out GW150.out), (bl3 HB.out (IsS90.ge HI0.out) GE134.out GE150.out)⟩)
     ·skip
      rintro _ w21 ⟨h0_, h1_, h2_, h3_⟩
      have n0_ : Aside0 (w21.heap[gb134]? = some (.cells #[.int .i64 0, .int .i64 0, .int .i64 0, .int .i64 0, .bool false] 27 (0, 0))) := ⟨h0_⟩
      have n1_ : Aside0 (IsS90 w0 w21 g s0_0 t145 t146) := ⟨h1_⟩
      have n2_ : Aside0 (KeepBut w w21 g none) := ⟨h2_⟩
      have n3_ : Aside0 (Below w0.heap.size w0 w21) := ⟨h3_⟩
      clear BK134
      clear HI0
      clear HK
      clear HB
      clear h0_ h1_ h2_ h3_
      have BK134 := n0_
      have HI0 := n1_
      have HK := n2_
      have HB := n3_
      clear n0_ n1_ n2_ n3_
      have hHeld := trivial
      refine norm_ (a' := ?_) ?_ ?_
      rotate_left
      ·simp only [putAll, Act.put, List.setIfInBounds_toArray, List.set_cons_zero, List.set_cons_succ]
       rfl
      refine two_ (i := 18) (j := 21) (Ni := some 27) (Nj := some 6) (bm 23 524287) (bm 23 2359295) rfl rfl rfl rfl (two_of HT_.out (by kernel_rfl)) (by decide) (by decide) (fun K hK => ?_) (fun K hK => ?_)
      ·skip
       refine goesS_ Try.func158 #[.pointer (some ⟨g, 0, none⟩), .int .i64 2] ?_
       with_reducible refine (spec_l1Cur_one.calls g s0_0 t145 t146 2 t147 t148 t149 w0 _ ?side1 ?side2 A11.out).mono ?_
       (case side1 => repeat (first | (with_reducible first | exact HI0.out | apply IsS90.alloc | apply IsS90.drewN | apply IsS90.drew | apply IsS90.set_1 | apply IsS90.set_2 | refine IsS90.far ?_ NB0_134.out _) | exact HI0.out))
       (case side2 => repeat (first | (with_reducible first | exact HB.out | apply below_alloc | apply pw_below_drewN | apply below_drew1 | refine below_set ?_ (IsS90.ge HI0.out) | refine below_set ?_ GE134.out) | exact HB.out))
       rintro e w22 ⟨rfl, hi, hb, hk⟩
       refine ⟨_, rfl, ?_⟩
       have n0_ := Aside0.mk (KeepBut.blk hk (g' := gb134) (o := .cells #[.int .i64 0, .int .i64 0, .int .i64 0, .int .i64 0, .bool false] 27 (0, 0)) (kb BK134.out) NB134_0.out (by simp))
       have n1_ := Aside0.mk (KeepBut.trans (kk1 HK.out GW134.out) hk (.inl rfl))
       have n2_ := Aside0.mk (hb)
       have n3_ := Aside0.mk (hi)
       clear BK134
       clear HK
       clear HB
       clear HI0
       have BK134 := n0_
       have HK := n1_
       have HB := n2_
       have HI0 := n3_
       clear n0_ n1_ n2_ n3_
       (try clear hb)
       (try clear hb2)
       (try clear hk)
       (try clear hi)
       refine hK.out _ _ trivial (fun hHeld => ?_)
       clear hK K
       refine norm_ (a' := ?_) ?_ ?_
       rotate_left
       ·show Act.put _ (some 27) _ = _
        simp only [Act.put, List.setIfInBounds_toArray, List.set_cons_zero, List.set_cons_succ, i64_w, i32_w]
        rfl
       refine pureT_ 19 28 (bm 23 1048575) HT_.out ?_
       refine pureT_ 20 29 (bm 23 2097151) HT_.out ?_
       exact norm_ (by first | (simp only [putAll, Act.put, List.setIfInBounds_toArray, List.set_cons_zero, List.set_cons_succ]; done) | (simp only [putAll, Act.put, List.setIfInBounds_toArray, List.set_cons_zero, List.set_cons_succ]; rfl)) (hJ4_11_15_18 () _ ⟨(kb BK134.out), (by repeat (first | (with_reducible first | exact HI0.out | apply IsS90.alloc | apply IsS90.drewN | apply IsS90.drew | apply IsS90.set_1 | apply IsS90.set_2 | refine IsS90.far ?_ NB0_134.out _) | exact HI0.out)), (kk1 HK.out GW134.out), (bl2 HB.out (IsS90.ge HI0.out) GE134.out)⟩)
      ·skip
       refine box_step ?hg (N := 6) ?hd (cs := #[.int .i64 0, .int .i64 0, .int .i64 0, .int .i64 0, .bool false]) (t := 27) ?hr ?_; (case hd => rfl); (case hg => rfl); (case hr => first | (go_simp; done) | (go_simp; rfl))
       intro gb150 hg w22 hbox hb
       have n0_ := Aside0.mk (IsS90.below (by repeat (first | (with_reducible first | exact HI0.out | apply IsS90.alloc | apply IsS90.drewN | apply IsS90.drew | apply IsS90.set_1 | apply IsS90.set_2 | refine IsS90.far ?_ NB0_134.out _) | exact HI0.out)) hb)
       have n1_ := Aside0.mk (blk_below (g := gb134) (o := .cells #[.int .i64 0, .int .i64 0, .int .i64 0, .int .i64 0, .bool false] 27 (0, 0)) (kb BK134.out) hb)
       have n2_ := Aside0.mk (KeepBut.trans (kk1 HK.out GW134.out) (KeepBut.of_below hb g none) (.inl rfl))
       have n3_ := Aside0.mk (below_step (bl2 HB.out (IsS90.ge HI0.out) GE134.out) hb)
       have n4_ := Aside0.mk (hbox)
       have n5_ := Aside0.mk ((by rw [hg]; exact (keep_size (w := w) (g := g) (row := none) (kk1 HK.out GW134.out)) : w.heap.size ≤ gb150))
       have n6_ := Aside0.mk ((Nat.le_trans HW0.out (by rw [hg]; exact (keep_size (w := w) (g := g) (row := none) (kk1 HK.out GW134.out)) : w.heap.size ≤ gb150) : w0.heap.size ≤ gb150))
       have n7_ := Aside0.mk ((by rw [hg]; exact Nat.ne_of_lt (blk_lt (g := gb134) (o := .cells #[.int .i64 0, .int .i64 0, .int .i64 0, .int .i64 0, .bool false] 27 (0, 0)) (kb BK134.out)) : gb134 ≠ gb150))
       have n8_ := Aside0.mk ((by rw [hg]; exact Nat.ne_of_gt (blk_lt (g := gb134) (o := .cells #[.int .i64 0, .int .i64 0, .int .i64 0, .int .i64 0, .bool false] 27 (0, 0)) (kb BK134.out)) : gb150 ≠ gb134))
       have n9_ := Aside0.mk ((by rw [hg]; exact Nat.ne_of_lt (IsS90.lt (show IsS90 w0 _ g s0_0 t145 t146 from by repeat (first | (with_reducible first | exact HI0.out | apply IsS90.alloc | apply IsS90.drewN | apply IsS90.drew | apply IsS90.set_1 | apply IsS90.set_2 | refine IsS90.far ?_ NB0_134.out _) | exact HI0.out))) : g ≠ gb150))
       have n10_ := Aside0.mk ((by rw [hg]; exact Nat.ne_of_gt (IsS90.lt (show IsS90 w0 _ g s0_0 t145 t146 from by repeat (first | (with_reducible first | exact HI0.out | apply IsS90.alloc | apply IsS90.drewN | apply IsS90.drew | apply IsS90.set_1 | apply IsS90.set_2 | refine IsS90.far ?_ NB0_134.out _) | exact HI0.out))) : gb150 ≠ g))
       clear HI0
       clear BK134
       clear HK
       clear HB
       have HI0 := n0_
       have BK134 := n1_
       have HK := n2_
       have HB := n3_
       have BK150 := n4_
       have GW150 := n5_
       have GE150 := n6_
       have NB134_150 := n7_
       have NB150_134 := n8_
       have NB0_150 := n9_
       have NB150_0 := n10_
       clear n0_ n1_ n2_ n3_ n4_ n5_ n6_ n7_ n8_ n9_ n10_
       clear hb hbox hg
       refine hK.out _ _ trivial (fun hHeld => ?_)
       clear hK K
       refine norm_ (a' := ?_) ?_ ?_
       rotate_left
       ·show Act.put _ (some 6) _ = _
        simp only [Act.put, List.setIfInBounds_toArray, List.set_cons_zero, List.set_cons_succ, i64_w, i32_w]
        rfl
       exact norm_ (by first | (simp only [putAll, Act.put, List.setIfInBounds_toArray, List.set_cons_zero, List.set_cons_succ]; done) | (simp only [putAll, Act.put, List.setIfInBounds_toArray, List.set_cons_zero, List.set_cons_succ]; rfl)) (hJ4_11_15_21 (gb150) _ ⟨(kb BK134.out), (kb BK150.out), GW150.out, GE150.out, NB0_150.out, NB150_0.out, NB134_150.out, NB150_134.out, (by repeat (first | (with_reducible first | exact HI0.out | apply IsS90.alloc | apply IsS90.drewN | apply IsS90.drew | apply IsS90.set_1 | apply IsS90.set_2 | refine IsS90.far ?_ NB0_134.out _ | refine IsS90.far ?_ NB0_150.out _) | exact HI0.out)), (kk2 HK.out GW134.out GW150.out), (bl3 HB.out (IsS90.ge HI0.out) GE134.out GE150.out)⟩)
    ·skip
     rintro gb150 w22 ⟨h0_, h1_, h2_, h3_, h4_, h5_, h6_, h7_, h8_, h9_, h10_⟩
     have n0_ : Aside0 (w22.heap[gb134]? = some (.cells #[.int .i64 0, .int .i64 0, .int .i64 0, .int .i64 0, .bool false] 27 (0, 0))) := ⟨h0_⟩
     have n1_ : Aside0 (w22.heap[gb150]? = some (.cells #[.int .i64 0, .int .i64 0, .int .i64 0, .int .i64 0, .bool false] 27 (0, 0))) := ⟨h1_⟩
     have n2_ : Aside0 (w.heap.size ≤ gb150) := ⟨h2_⟩
     have n3_ : Aside0 (w0.heap.size ≤ gb150) := ⟨h3_⟩
     have n4_ : Aside0 (g ≠ gb150) := ⟨h4_⟩
     have n5_ : Aside0 (gb150 ≠ g) := ⟨h5_⟩
     have n6_ : Aside0 (gb134 ≠ gb150) := ⟨h6_⟩
     have n7_ : Aside0 (gb150 ≠ gb134) := ⟨h7_⟩
     have n8_ : Aside0 (IsS90 w0 w22 g s0_0 t145 t146) := ⟨h8_⟩
     have n9_ : Aside0 (KeepBut w w22 g none) := ⟨h9_⟩
     have n10_ : Aside0 (Below w0.heap.size w0 w22) := ⟨h10_⟩
     clear BK134
     clear HI0
     clear HK
     clear HB
     clear h0_ h1_ h2_ h3_ h4_ h5_ h6_ h7_ h8_ h9_ h10_
     have BK134 := n0_
     have BK150 := n1_
     have GW150 := n2_
     have GE150 := n3_
     have NB0_150 := n4_
     have NB150_0 := n5_
     have NB134_150 := n6_
     have NB150_134 := n7_
     have HI0 := n8_
     have HK := n9_
     have HB := n10_
     clear n0_ n1_ n2_ n3_ n4_ n5_ n6_ n7_ n8_ n9_ n10_
     have hHeld := trivial
     refine norm_ (a' := ?_) ?_ ?_
     rotate_left
     ·simp only [putAll, Act.put, List.setIfInBounds_toArray, List.set_cons_zero, List.set_cons_succ]
      rfl
     refine one_ (i := 18) (N := some 27) (bm 23 2621439) rfl rfl (one_of HT_.out (by kernel_rfl)) (by decide) (fun K hK => ?_)
     refine goesS_ Try.func158 #[.pointer (some ⟨g, 0, none⟩), .int .i64 2] ?_
     with_reducible refine (spec_l1Cur_one.calls g s0_0 t145 t146 2 t147 t148 t149 w0 _ ?side1 ?side2 A11.out).mono ?_
     (case side1 => repeat (first | (with_reducible first | exact HI0.out | apply IsS90.alloc | apply IsS90.drewN | apply IsS90.drew | apply IsS90.set_1 | apply IsS90.set_2 | refine IsS90.far ?_ NB0_134.out _ | refine IsS90.far ?_ NB0_150.out _) | exact HI0.out))
     (case side2 => repeat (first | (with_reducible first | exact HB.out | apply below_alloc | apply pw_below_drewN | apply below_drew1 | refine below_set ?_ (IsS90.ge HI0.out) | refine below_set ?_ GE134.out | refine below_set ?_ GE150.out) | exact HB.out))
     rintro e w23 ⟨rfl, hi, hb, hk⟩
     refine ⟨_, rfl, ?_⟩
     have n0_ := Aside0.mk (KeepBut.blk hk (g' := gb134) (o := .cells #[.int .i64 0, .int .i64 0, .int .i64 0, .int .i64 0, .bool false] 27 (0, 0)) (kb BK134.out) NB134_0.out (by simp))
     have n1_ := Aside0.mk (KeepBut.blk hk (g' := gb150) (o := .cells #[.int .i64 0, .int .i64 0, .int .i64 0, .int .i64 0, .bool false] 27 (0, 0)) (kb BK150.out) NB150_0.out (by simp))
     have n2_ := Aside0.mk (KeepBut.trans (kk2 HK.out GW134.out GW150.out) hk (.inl rfl))
     have n3_ := Aside0.mk (hb)
     have n4_ := Aside0.mk (hi)
     clear BK134
     clear BK150
     clear HK
     clear HB
     clear HI0
     have BK134 := n0_
     have BK150 := n1_
     have HK := n2_
     have HB := n3_
     have HI0 := n4_
     clear n0_ n1_ n2_ n3_ n4_
     (try clear hb)
     (try clear hb2)
     (try clear hk)
     (try clear hi)
     refine hK.out _ _ trivial (fun hHeld => ?_)
     clear hK K
     refine norm_ (a' := ?_) ?_ ?_
     rotate_left
     ·show Act.put _ (some 27) _ = _
      simp only [Act.put, List.setIfInBounds_toArray, List.set_cons_zero, List.set_cons_succ, i64_w, i32_w]
      rfl
     refine pureT_ 19 28 (bm 23 3145727) HT_.out ?_
     refine pureT_ 20 29 (bm 23 4194303) HT_.out ?_
     exact norm_ (by first | (simp only [putAll, Act.put, List.setIfInBounds_toArray, List.set_cons_zero, List.set_cons_succ]; done) | (simp only [putAll, Act.put, List.setIfInBounds_toArray, List.set_cons_zero, List.set_cons_succ]; rfl)) (hJ4_11_15_18_21 (gb150) _ ⟨(kb BK134.out), (kb BK150.out), GW150.out, GE150.out, NB0_150.out, NB150_0.out, NB134_150.out, NB150_134.out, (by repeat (first | (with_reducible first | exact HI0.out | apply IsS90.alloc | apply IsS90.drewN | apply IsS90.drew | apply IsS90.set_1 | apply IsS90.set_2 | refine IsS90.far ?_ NB0_134.out _ | refine IsS90.far ?_ NB0_150.out _) | exact HI0.out)), (kk2 HK.out GW134.out GW150.out), (bl3 HB.out (IsS90.ge HI0.out) GE134.out GE150.out)⟩)
   ·skip
    rintro _ w22 ⟨h0_, h1_, h2_, h3_⟩
    have n0_ : Aside0 (w22.heap[gb134]? = some (.cells #[.int .i64 0, .int .i64 0, .int .i64 0, .int .i64 0, .bool false] 27 (0, 0))) := ⟨h0_⟩
    have n1_ : Aside0 (IsS90 w0 w22 g s0_0 t148 t149) := ⟨h1_⟩
    have n2_ : Aside0 (KeepBut w w22 g none) := ⟨h2_⟩
    have n3_ : Aside0 (Below w0.heap.size w0 w22) := ⟨h3_⟩
    clear BK134
    clear HI0
    clear HK
    clear HB
    clear h0_ h1_ h2_ h3_
    have BK134 := n0_
    have HI0 := n1_
    have HK := n2_
    have HB := n3_
    clear n0_ n1_ n2_ n3_
    have hHeld := trivial
    refine norm_ (a' := ?_) ?_ ?_
    rotate_left
    ·simp only [putAll, Act.put, List.setIfInBounds_toArray, List.set_cons_zero, List.set_cons_succ]
     rfl
    refine one_ (i := 21) (N := some 6) (bm 23 4194303) rfl rfl (one_of HT_.out (by kernel_rfl)) (by decide) (fun K hK => ?_)
    refine box_step ?hg (N := 6) ?hd (cs := #[.int .i64 0, .int .i64 0, .int .i64 0, .int .i64 0, .bool false]) (t := 27) ?hr ?_; (case hd => rfl); (case hg => rfl); (case hr => first | (go_simp; done) | (go_simp; rfl))
    intro gb150 hg w23 hbox hb
    have n0_ := Aside0.mk (IsS90.below (by repeat (first | (with_reducible first | exact HI0.out | apply IsS90.alloc | apply IsS90.drewN | apply IsS90.drew | apply IsS90.set_1 | apply IsS90.set_2 | refine IsS90.far ?_ NB0_134.out _) | exact HI0.out)) hb)
    have n1_ := Aside0.mk (blk_below (g := gb134) (o := .cells #[.int .i64 0, .int .i64 0, .int .i64 0, .int .i64 0, .bool false] 27 (0, 0)) (kb BK134.out) hb)
    have n2_ := Aside0.mk (KeepBut.trans (kk1 HK.out GW134.out) (KeepBut.of_below hb g none) (.inl rfl))
    have n3_ := Aside0.mk (below_step (bl2 HB.out (IsS90.ge HI0.out) GE134.out) hb)
    have n4_ := Aside0.mk (hbox)
    have n5_ := Aside0.mk ((by rw [hg]; exact (keep_size (w := w) (g := g) (row := none) (kk1 HK.out GW134.out)) : w.heap.size ≤ gb150))
    have n6_ := Aside0.mk ((Nat.le_trans HW0.out (by rw [hg]; exact (keep_size (w := w) (g := g) (row := none) (kk1 HK.out GW134.out)) : w.heap.size ≤ gb150) : w0.heap.size ≤ gb150))
    have n7_ := Aside0.mk ((by rw [hg]; exact Nat.ne_of_lt (blk_lt (g := gb134) (o := .cells #[.int .i64 0, .int .i64 0, .int .i64 0, .int .i64 0, .bool false] 27 (0, 0)) (kb BK134.out)) : gb134 ≠ gb150))
    have n8_ := Aside0.mk ((by rw [hg]; exact Nat.ne_of_gt (blk_lt (g := gb134) (o := .cells #[.int .i64 0, .int .i64 0, .int .i64 0, .int .i64 0, .bool false] 27 (0, 0)) (kb BK134.out)) : gb150 ≠ gb134))
    have n9_ := Aside0.mk ((by rw [hg]; exact Nat.ne_of_lt (IsS90.lt (show IsS90 w0 _ g s0_0 t148 t149 from by repeat (first | (with_reducible first | exact HI0.out | apply IsS90.alloc | apply IsS90.drewN | apply IsS90.drew | apply IsS90.set_1 | apply IsS90.set_2 | refine IsS90.far ?_ NB0_134.out _) | exact HI0.out))) : g ≠ gb150))
    have n10_ := Aside0.mk ((by rw [hg]; exact Nat.ne_of_gt (IsS90.lt (show IsS90 w0 _ g s0_0 t148 t149 from by repeat (first | (with_reducible first | exact HI0.out | apply IsS90.alloc | apply IsS90.drewN | apply IsS90.drew | apply IsS90.set_1 | apply IsS90.set_2 | refine IsS90.far ?_ NB0_134.out _) | exact HI0.out))) : gb150 ≠ g))
    clear HI0
    clear BK134
    clear HK
    clear HB
    have HI0 := n0_
    have BK134 := n1_
    have HK := n2_
    have HB := n3_
    have BK150 := n4_
    have GW150 := n5_
    have GE150 := n6_
    have NB134_150 := n7_
    have NB150_134 := n8_
    have NB0_150 := n9_
    have NB150_0 := n10_
    clear n0_ n1_ n2_ n3_ n4_ n5_ n6_ n7_ n8_ n9_ n10_
    clear hb hbox hg
    refine hK.out _ _ trivial (fun hHeld => ?_)
    clear hK K
    refine norm_ (a' := ?_) ?_ ?_
    rotate_left
    ·show Act.put _ (some 6) _ = _
     simp only [Act.put, List.setIfInBounds_toArray, List.set_cons_zero, List.set_cons_succ, i64_w, i32_w]
     rfl
    exact norm_ (by first | (simp only [putAll, Act.put, List.setIfInBounds_toArray, List.set_cons_zero, List.set_cons_succ]; done) | (simp only [putAll, Act.put, List.setIfInBounds_toArray, List.set_cons_zero, List.set_cons_succ]; rfl)) (hJ4_11_15_18_21 (gb150) _ ⟨(kb BK134.out), (kb BK150.out), GW150.out, GE150.out, NB0_150.out, NB150_0.out, NB134_150.out, NB150_134.out, (by repeat (first | (with_reducible first | exact HI0.out | apply IsS90.alloc | apply IsS90.drewN | apply IsS90.drew | apply IsS90.set_1 | apply IsS90.set_2 | refine IsS90.far ?_ NB0_134.out _ | refine IsS90.far ?_ NB0_150.out _) | exact HI0.out)), (kk2 HK.out GW134.out GW150.out), (bl3 HB.out (IsS90.ge HI0.out) GE134.out GE150.out)⟩)
  rintro gb150 w23 ⟨h0_, h1_, h2_, h3_, h4_, h5_, h6_, h7_, h8_, h9_, h10_⟩
  have n0_ : Aside0 (w23.heap[gb134]? = some (.cells #[.int .i64 0, .int .i64 0, .int .i64 0, .int .i64 0, .bool false] 27 (0, 0))) := ⟨h0_⟩
  have n1_ : Aside0 (w23.heap[gb150]? = some (.cells #[.int .i64 0, .int .i64 0, .int .i64 0, .int .i64 0, .bool false] 27 (0, 0))) := ⟨h1_⟩
  have n2_ : Aside0 (w.heap.size ≤ gb150) := ⟨h2_⟩
  have n3_ : Aside0 (w0.heap.size ≤ gb150) := ⟨h3_⟩
  have n4_ : Aside0 (g ≠ gb150) := ⟨h4_⟩
  have n5_ : Aside0 (gb150 ≠ g) := ⟨h5_⟩
  have n6_ : Aside0 (gb134 ≠ gb150) := ⟨h6_⟩
  have n7_ : Aside0 (gb150 ≠ gb134) := ⟨h7_⟩
  have n8_ : Aside0 (IsS90 w0 w23 g s0_0 t148 t149) := ⟨h8_⟩
  have n9_ : Aside0 (KeepBut w w23 g none) := ⟨h9_⟩
  have n10_ : Aside0 (Below w0.heap.size w0 w23) := ⟨h10_⟩
  clear BK134
  clear HI0
  clear HK
  clear HB
  clear h0_ h1_ h2_ h3_ h4_ h5_ h6_ h7_ h8_ h9_ h10_
  have BK134 := n0_
  have BK150 := n1_
  have GW150 := n2_
  have GE150 := n3_
  have NB0_150 := n4_
  have NB150_0 := n5_
  have NB134_150 := n6_
  have NB150_134 := n7_
  have HI0 := n8_
  have HK := n9_
  have HB := n10_
  clear n0_ n1_ n2_ n3_ n4_ n5_ n6_ n7_ n8_ n9_ n10_
  have hHeld := trivial
  refine norm_ (a' := ?_) ?_ ?_
  rotate_left
  ·simp only [putAll, Act.put, List.setIfInBounds_toArray, List.set_cons_zero, List.set_cons_succ]
   rfl
  refine one_ (i := 22) (N := none) (bm 23 8388607) rfl rfl (one_of HT_.out (by kernel_rfl)) (by decide) (fun K hK => ?_)
  have hs24 : w23.cell? ⟨gb150, 0, none⟩ = some (.int .i64 0) := (blk_cell BK150.out 0).trans rfl
  have hfs24 := blk_frozen BK150.out 0
  have hns24_0 := NB134_150.out
  have hms24_0 := NB150_134.out
  have hs25 : w23.cell? ⟨gb150, 1, none⟩ = some (.int .i64 0) := (blk_cell BK150.out 1).trans rfl
  have hfs25 := blk_frozen BK150.out 1
  have hns25_0 := NB134_150.out
  have hms25_0 := NB150_134.out
  have hs26 : w23.cell? ⟨gb150, 2, none⟩ = some (.int .i64 0) := (blk_cell BK150.out 2).trans rfl
  have hfs26 := blk_frozen BK150.out 2
  have hns26_0 := NB134_150.out
  have hms26_0 := NB150_134.out
  have hs27 : w23.cell? ⟨gb150, 3, none⟩ = some (.int .i64 0) := (blk_cell BK150.out 3).trans rfl
  have hfs27 := blk_frozen BK150.out 3
  have hns27_0 := NB134_150.out
  have hms27_0 := NB150_134.out
  have hs28 : w23.cell? ⟨gb150, 4, none⟩ = some (.bool false) := (blk_cell BK150.out 4).trans rfl
  have hfs28 := blk_frozen BK150.out 4
  have hns28_0 := NB134_150.out
  have hms28_0 := NB150_134.out
  refine skip_ (w1 := ?_) (by rfl) rfl ?_ ?_
  rotate_left
  ·go_simp
   rfl
  refine hK.out _ _ trivial (fun hHeld => ?_)
  clear hK K
  refine done_ (done_of HT_.out (by kernel_rfl)) ?_
  have H := H'.out
  clear H'
  by_cases c13 : t151 = 0
  ·rw [if_pos c13] at H
   have c13b0 : (t151 == 0) = true := beq_iff_eq.mpr c13
   have c13b1 : (t151 != 0) = false := bne_eq_false_iff_eq.mpr c13
   clear c13
   obtain ⟨y154, hy154⟩ : ∃ y_ : List Int, y_ = (([1024, (-1024), 1025, (-4611686018427387904), 0] : List Int)) := ⟨_, rfl⟩
   replace H : ((spec_l1Cur_among.f s0_0 t152 t153 y154).bind fun bt157 => (some (bt157.1, t135, t141, wrap64 (2 + t144), t147, bt157.2.1, bt157.2.2))) = some (r1, r2, r3, r4, r5, r6, r7) := by first | (rw [hy154]; with_reducible exact H) | (have H2_ := (Option.bind_some _ _).symm.trans H; rw [hy154]; with_reducible exact H2_) | (have H2_ := (Option.bind_some _ _).symm.trans H; with_reducible exact H2_) | with_reducible exact H | (rw [hy154]; exact H) | exact H
   have Ny154 := Aside0.mk hy154
   clear hy154
   replace H := Option.bind_eq_some_iff.mp H
   obtain ⟨⟨t157, t158, t159⟩, A140, H⟩ := H
   (try dsimp only at H)
   have A14 := Aside0.mk A140
   clear A140
   simp only [Option.some.injEq, Prod.mk.injEq] at H
   obtain ⟨rfl, rfl, rfl, rfl, rfl, rfl, rfl⟩ := H
   try go_wp2_with (first | ((with_reducible refine gate_callee (f := 157) rfl ?_); refine goesLS_ (some 31) Try.func157 #[.pointer (some ⟨g, 0, none⟩), .int .i64 18] ?_; (with_reducible refine (spec_l1Cur_pick.calls g s0_0 t148 t149 18 t151 t152 t153 w0 _ ?side1 ?side2 A12.out).mono ?_); (case side1 => repeat (first | (with_reducible first | exact HI0.out | apply IsS90.alloc | apply IsS90.drewN | apply IsS90.drew | apply IsS90.set_1 | apply IsS90.set_2 | refine IsS90.far ?_ NB0_134.out _ | refine IsS90.far ?_ NB0_150.out _) | exact HI0.out)); (case side2 => repeat (first | (with_reducible first | exact HB.out | apply below_alloc | apply pw_below_drewN | apply below_drew1 | refine below_set ?_ (IsS90.ge HI0.out) | refine below_set ?_ GE134.out | refine below_set ?_ GE150.out) | exact HB.out)); rintro e w29 ⟨rfl, hi, hb, hk⟩; refine ⟨_, rfl, ?_⟩; have n0_ := Aside0.mk (KeepBut.blk hk (g' := gb134) (o := .cells #[.int .i64 0, .int .i64 0, .int .i64 0, .int .i64 0, .bool false] 27 (0, 0)) (by (with_reducible repeat (first | refine blk_drewN ?_ _ | refine blk_drew ?_ | refine blk_alloc ?_ _)); refine blk_far ?_ NB134_150.out _; (with_reducible repeat (first | refine blk_drewN ?_ _ | refine blk_drew ?_ | refine blk_alloc ?_ _)); refine blk_far ?_ NB134_150.out _; (with_reducible repeat (first | refine blk_drewN ?_ _ | refine blk_drew ?_ | refine blk_alloc ?_ _)); refine blk_far ?_ NB134_150.out _; (with_reducible repeat (first | refine blk_drewN ?_ _ | refine blk_drew ?_ | refine blk_alloc ?_ _)); refine blk_far ?_ NB134_150.out _; (with_reducible repeat (first | refine blk_drewN ?_ _ | refine blk_drew ?_ | refine blk_alloc ?_ _)); refine blk_far ?_ NB134_150.out _; (with_reducible repeat (first | refine blk_drewN ?_ _ | refine blk_drew ?_ | refine blk_alloc ?_ _)); exact BK134.out) NB134_0.out (by simp)); have n1_ := Aside0.mk (KeepBut.blk hk (g' := gb150) (o := .cells #[.int .i64 (wrap64 ((wrap64 (t138 - (ji8))) - 1)), .int .i64 t135, .int .i64 t141, .int .i64 (wrap64 (2 + t144)), .bool t147] 27 (0, 0)) (by (with_reducible repeat (first | refine blk_drewN ?_ _ | refine blk_drew ?_ | refine blk_alloc ?_ _)); refine blk_put (cs := #[.int .i64 (wrap64 ((wrap64 (t138 - (ji8))) - 1)), .int .i64 t135, .int .i64 t141, .int .i64 (wrap64 (2 + t144)), .bool false]) ?_ 4 _ rfl; (with_reducible repeat (first | refine blk_drewN ?_ _ | refine blk_drew ?_ | refine blk_alloc ?_ _)); refine blk_put (cs := #[.int .i64 (wrap64 ((wrap64 (t138 - (ji8))) - 1)), .int .i64 t135, .int .i64 t141, .int .i64 0, .bool false]) ?_ 3 _ rfl; (with_reducible repeat (first | refine blk_drewN ?_ _ | refine blk_drew ?_ | refine blk_alloc ?_ _)); refine blk_put (cs := #[.int .i64 (wrap64 ((wrap64 (t138 - (ji8))) - 1)), .int .i64 t135, .int .i64 0, .int .i64 0, .bool false]) ?_ 2 _ rfl; (with_reducible repeat (first | refine blk_drewN ?_ _ | refine blk_drew ?_ | refine blk_alloc ?_ _)); refine blk_put (cs := #[.int .i64 (wrap64 ((wrap64 (t138 - (ji8))) - 1)), .int .i64 0, .int .i64 0, .int .i64 0, .bool false]) ?_ 1 _ rfl; (with_reducible repeat (first | refine blk_drewN ?_ _ | refine blk_drew ?_ | refine blk_alloc ?_ _)); refine blk_put (cs := #[.int .i64 0, .int .i64 0, .int .i64 0, .int .i64 0, .bool false]) ?_ 0 _ rfl; (with_reducible repeat (first | refine blk_drewN ?_ _ | refine blk_drew ?_ | refine blk_alloc ?_ _)); exact BK150.out) NB150_0.out (by simp)); have n2_ := Aside0.mk (KeepBut.trans (kk2 HK.out GW134.out GW150.out) hk (.inl rfl)); have n3_ := Aside0.mk (hb); have n4_ := Aside0.mk (hi); clear BK134; clear BK150; clear HK; clear HB; clear HI0; have BK134 := n0_; have BK150 := n1_; have HK := n2_; have HB := n3_; have HI0 := n4_; clear n0_ n1_ n2_ n3_ n4_; (try clear hb); (try clear hb2); (try clear hk); (try clear hi)) | ((with_reducible refine gate_dst (N := 35) rfl ?_); refine Kd.R_lit (Kd.int .i64) _ 3 ?hg (N := 35) ?hd (xs := ([1024, (-1024), 1025, (-4611686018427387904), 0] : List Int)) (inner := [.int .i64 1024, .int .i64 (-1024), .int .i64 1025, .int .i64 (-4611686018427387904), .int .i64 0]) (ok := fun _ => True) (okp := fun _ => True) ?hr ?hp (fun _ hk => hk) trivial (Below.refl _ _) (Nat.le_refl _) (by simp) ?_; (case hd => rfl); (case hg => rfl); (case hr => first | (go_simp; done) | (go_simp; rfl)); (case hp => exact (Reps.one (show Kd.M (Kd.int .i64) _ _ _ 1024 [.int .i64 1024] from rfl) (Reps.one (show Kd.M (Kd.int .i64) _ _ _ (-1024) [.int .i64 (-1024)] from rfl) (Reps.one (show Kd.M (Kd.int .i64) _ _ _ 1025 [.int .i64 1025] from rfl) (Reps.one (show Kd.M (Kd.int .i64) _ _ _ (-4611686018427387904) [.int .i64 (-4611686018427387904)] from rfl) (Reps.one (show Kd.M (Kd.int .i64) _ _ _ 0 [.int .i64 0] from rfl) (Reps.none _ _))))))); intro v155 w30 ho31 hb hg_ hnew_; clear hg_ hnew_; (first | rw [← Ny154.out] at ho31 | (simp only [Int.reduceToNat] at ho31; rw [← Ny154.out] at ho31)); have n0_ := Aside0.mk (Kd.R_lower ho31 (keep_size (w := w) (g := g) (row := none) (kk2 HK.out GW134.out GW150.out))); have n1_ := Aside0.mk (IsS90.below (by repeat (first | (with_reducible first | exact HI0.out | apply IsS90.alloc | apply IsS90.drewN | apply IsS90.drew | apply IsS90.set_1 | apply IsS90.set_2 | refine IsS90.far ?_ NB0_134.out _ | refine IsS90.far ?_ NB0_150.out _) | exact HI0.out)) hb); have n2_ := Aside0.mk (blk_below (g := gb134) (o := .cells #[.int .i64 0, .int .i64 0, .int .i64 0, .int .i64 0, .bool false] 27 (0, 0)) (kb BK134.out) hb); have n3_ := Aside0.mk (blk_below (g := gb150) (o := .cells #[.int .i64 (wrap64 ((wrap64 (t138 - (ji8))) - 1)), .int .i64 t135, .int .i64 t141, .int .i64 (wrap64 (2 + t144)), .bool t147] 27 (0, 0)) (kb BK150.out) hb); have n4_ := Aside0.mk (KeepBut.trans (kk2 HK.out GW134.out GW150.out) (KeepBut.of_below hb g none) (.inl rfl)); have n5_ := Aside0.mk (below_step (bl3 HB.out (IsS90.ge HI0.out) GE134.out GE150.out) hb); clear HI0; clear BK134; clear BK150; clear HK; clear HB; have HO156 := n0_; have HI0 := n1_; have BK134 := n2_; have BK150 := n3_; have HK := n4_; have HB := n5_; clear n0_ n1_ n2_ n3_ n4_ n5_; clear hb ho31; obtain ⟨Ao32, co32, eo32⟩ := Kd.R_slice HO156.out; subst eo32) | ((with_reducible refine gate_callee (f := 110) rfl ?_); refine goesLS_ (some 36) Try.func110 #[.pointer (some ⟨g, 0, none⟩), .slice Ao32 y154.length co32] ?_; (with_reducible refine (spec_l1Cur_among.calls g s0_0 t152 t153 _ _ y154 t157 t158 t159 w0 _ ?side1 ?side2 ?side3 ?side4 ?side5 A14.out).mono ?_); (case side1 => repeat (first | (with_reducible first | exact HI0.out | apply IsS90.alloc | apply IsS90.drewN | apply IsS90.drew | apply IsS90.set_1 | apply IsS90.set_2 | refine IsS90.far ?_ NB0_134.out _ | refine IsS90.far ?_ NB0_150.out _) | exact HI0.out)); (case side2 => repeat (first | (with_reducible first | exact HB.out | apply below_alloc | apply pw_below_drewN | apply below_drew1 | refine below_set ?_ (IsS90.ge HI0.out) | refine below_set ?_ GE134.out | refine below_set ?_ GE150.out) | exact HB.out)); (case side3 => repeat (first | exact (Kd.R_reads' HO156.out).2.2 | (with_reducible refine Kd.C_alloc ?_ _) | (with_reducible refine Kd.C_drewN ?_ _) | (with_reducible refine Kd.C_drew ?_))); (case side4 => exact (Kd.R_reads' HO156.out).2.1); (case side5 => exact far_slice (IsS90.own_ne HI0.out HO156.out (by decide))); rintro e w33 ⟨rfl, hi, hb, hk⟩; refine ⟨_, rfl, ?_⟩; have n0_ := Aside0.mk (KeepBut.blk hk (g' := gb134) (o := .cells #[.int .i64 0, .int .i64 0, .int .i64 0, .int .i64 0, .bool false] 27 (0, 0)) (kb BK134.out) NB134_0.out (by simp)); have n1_ := Aside0.mk (KeepBut.blk hk (g' := gb150) (o := .cells #[.int .i64 (wrap64 ((wrap64 (t138 - (ji8))) - 1)), .int .i64 t135, .int .i64 t141, .int .i64 (wrap64 (2 + t144)), .bool t147] 27 (0, 0)) (kb BK150.out) NB150_0.out (by simp)); have n2_ := Aside0.mk (Kd.R_mono (Kd.R_keep (IsS90.apart (show IsS90 w0 _ g s0_0 t152 t153 from by repeat (first | (with_reducible first | exact HI0.out | apply IsS90.alloc | apply IsS90.drewN | apply IsS90.drew | apply IsS90.set_1 | apply IsS90.set_2 | refine IsS90.far ?_ NB0_134.out _ | refine IsS90.far ?_ NB0_150.out _) | exact HI0.out)) (kr HO156.out) (by decide)) hk (fun _ h => h.2)) (fun _ h => h.1)); have n3_ := Aside0.mk (KeepBut.trans (kk2 HK.out GW134.out GW150.out) hk (.inl rfl)); have n4_ := Aside0.mk (hb); have n5_ := Aside0.mk (hi); clear BK134; clear BK150; clear HO156; clear HK; clear HB; clear HI0; have BK134 := n0_; have BK150 := n1_; have HO156 := n2_; have HK := n3_; have HB := n4_; have HI0 := n5_; clear n0_ n1_ n2_ n3_ n4_ n5_; (try clear hb); (try clear hb2); (try clear hk); (try clear hi); have hnb34 := NB150_134.out; have hnc34 := NB134_150.out; have hnb35 := NB150_0.out; have hnc35 := NB0_150.out; have hcz36_0 : w33.cell? ⟨gb150, 0, none⟩ = some (.int .i64 (wrap64 ((wrap64 (t138 - (ji8))) - 1))) := (blk_cell BK150.out 0).trans rfl; have hcz36_1 : w33.cell? ⟨gb150, 1, none⟩ = some (.int .i64 t135) := (blk_cell BK150.out 1).trans rfl; have hcz36_2 : w33.cell? ⟨gb150, 2, none⟩ = some (.int .i64 t141) := (blk_cell BK150.out 2).trans rfl; have hcz36_3 : w33.cell? ⟨gb150, 3, none⟩ = some (.int .i64 (wrap64 (2 + t144))) := (blk_cell BK150.out 3).trans rfl; have hcz36_4 : w33.cell? ⟨gb150, 4, none⟩ = some (.bool t147) := (blk_cell BK150.out 4).trans rfl; have hfz36_0 := blk_frozen BK150.out 0; have hfz36_1 := blk_frozen BK150.out 1; have hfz36_2 := blk_frozen BK150.out 2; have hfz36_3 := blk_frozen BK150.out 3; have hfz36_4 := blk_frozen BK150.out 4; have hnb37 := NB134_0.out; have hnc37 := NB0_134.out; obtain ⟨hcz38_0, hcz38_1, hcz38_2, hcz38_3, hcz38_4, hfz38_0, hfz38_1, hfz38_2, hfz38_3, hfz38_4⟩ := cz5 BK134.out))
   refine bodyPost_ret (results_cell_row rfl _ _ gb134 27 #[.int .i64 t157, .int .i64 t135, .int .i64 t141, .int .i64 (wrap64 (2 + t144)), .bool t147] (0, 0) _ rfl (by (with_reducible repeat (first | refine blk_drewN ?_ _ | refine blk_drew ?_ | refine blk_alloc ?_ _)); refine blk_put (cs := #[.int .i64 t157, .int .i64 t135, .int .i64 t141, .int .i64 (wrap64 (2 + t144)), .bool false]) ?_ 4 _ rfl; (with_reducible repeat (first | refine blk_drewN ?_ _ | refine blk_drew ?_ | refine blk_alloc ?_ _)); refine blk_put (cs := #[.int .i64 t157, .int .i64 t135, .int .i64 t141, .int .i64 0, .bool false]) ?_ 3 _ rfl; (with_reducible repeat (first | refine blk_drewN ?_ _ | refine blk_drew ?_ | refine blk_alloc ?_ _)); refine blk_put (cs := #[.int .i64 t157, .int .i64 t135, .int .i64 0, .int .i64 0, .bool false]) ?_ 2 _ rfl; (with_reducible repeat (first | refine blk_drewN ?_ _ | refine blk_drew ?_ | refine blk_alloc ?_ _)); refine blk_put (cs := #[.int .i64 t157, .int .i64 0, .int .i64 0, .int .i64 0, .bool false]) ?_ 1 _ rfl; (with_reducible repeat (first | refine blk_drewN ?_ _ | refine blk_drew ?_ | refine blk_alloc ?_ _)); refine blk_put (cs := #[.int .i64 0, .int .i64 0, .int .i64 0, .int .i64 0, .bool false]) ?_ 0 _ rfl; (with_reducible repeat (first | refine blk_drewN ?_ _ | refine blk_drew ?_ | refine blk_alloc ?_ _)); refine blk_far ?_ NB134_150.out _; (with_reducible repeat (first | refine blk_drewN ?_ _ | refine blk_drew ?_ | refine blk_alloc ?_ _)); exact BK134.out) Try.underlying27 rfl (by kernel_rfl)) rfl ?_
   exact ⟨by first | rfl | (simp [errW_none, errW_some] <;> rfl) | (simp only [← hji5, ← hji8]; first | rfl | (simp [errW_none, errW_some] <;> rfl)) | (simp [*, errW_none, errW_some] <;> rfl), by repeat (first | (with_reducible first | exact HI0.out | apply IsS90.alloc | apply IsS90.drewN | apply IsS90.drew | apply IsS90.set_1 | apply IsS90.set_2 | refine IsS90.far ?_ NB0_134.out _ | refine IsS90.far ?_ NB0_150.out _) | exact HI0.out), bl3 HB.out (IsS90.ge HI0.out) GE134.out GE150.out, kk2 HK.out GW134.out GW150.out⟩
  ·rw [if_neg c13] at H
   have c13b0 : (t151 == 0) = false := beq_eq_false_iff_ne.mpr c13
   have c13b1 : (t151 != 0) = true := bne_iff_ne.mpr c13
   by_cases c39 : t151 = 1
   ·rw [if_pos c39] at H
    have c39b0 : (t151 == 1) = true := beq_iff_eq.mpr c39
    have c39b1 : (t151 != 1) = false := bne_eq_false_iff_eq.mpr c39
    clear c39
    obtain ⟨y160, hy160⟩ : ∃ y_ : List Int, y_ = (([10, 11, (-1), 64] : List Int)) := ⟨_, rfl⟩
    replace H : ((spec_l1Cur_among.f s0_0 t152 t153 y160).bind fun bt163 => (some (wrap64 ((wrap64 (t138 - (ji8))) - 1), bt163.1, t141, wrap64 (2 + t144), t147, bt163.2.1, bt163.2.2))) = some (r1, r2, r3, r4, r5, r6, r7) := by first | (rw [hy160]; with_reducible exact H) | (have H2_ := (Option.bind_some _ _).symm.trans H; rw [hy160]; with_reducible exact H2_) | (have H2_ := (Option.bind_some _ _).symm.trans H; with_reducible exact H2_) | with_reducible exact H | (rw [hy160]; exact H) | exact H
    have Ny160 := Aside0.mk hy160
    clear hy160
    replace H := Option.bind_eq_some_iff.mp H
    obtain ⟨⟨t163, t164, t165⟩, A400, H⟩ := H
    (try dsimp only at H)
    have A40 := Aside0.mk A400
    clear A400
    simp only [Option.some.injEq, Prod.mk.injEq] at H
    obtain ⟨rfl, rfl, rfl, rfl, rfl, rfl, rfl⟩ := H
    try go_wp2_with (first | ((with_reducible refine gate_callee (f := 157) rfl ?_); refine goesLS_ (some 31) Try.func157 #[.pointer (some ⟨g, 0, none⟩), .int .i64 18] ?_; (with_reducible refine (spec_l1Cur_pick.calls g s0_0 t148 t149 18 t151 t152 t153 w0 _ ?side1 ?side2 A12.out).mono ?_); (case side1 => repeat (first | (with_reducible first | exact HI0.out | apply IsS90.alloc | apply IsS90.drewN | apply IsS90.drew | apply IsS90.set_1 | apply IsS90.set_2 | refine IsS90.far ?_ NB0_134.out _ | refine IsS90.far ?_ NB0_150.out _) | exact HI0.out)); (case side2 => repeat (first | (with_reducible first | exact HB.out | apply below_alloc | apply pw_below_drewN | apply below_drew1 | refine below_set ?_ (IsS90.ge HI0.out) | refine below_set ?_ GE134.out | refine below_set ?_ GE150.out) | exact HB.out)); rintro e w55 ⟨rfl, hi, hb, hk⟩; refine ⟨_, rfl, ?_⟩; have n0_ := Aside0.mk (KeepBut.blk hk (g' := gb134) (o := .cells #[.int .i64 0, .int .i64 0, .int .i64 0, .int .i64 0, .bool false] 27 (0, 0)) (by (with_reducible repeat (first | refine blk_drewN ?_ _ | refine blk_drew ?_ | refine blk_alloc ?_ _)); refine blk_far ?_ NB134_150.out _; (with_reducible repeat (first | refine blk_drewN ?_ _ | refine blk_drew ?_ | refine blk_alloc ?_ _)); refine blk_far ?_ NB134_150.out _; (with_reducible repeat (first | refine blk_drewN ?_ _ | refine blk_drew ?_ | refine blk_alloc ?_ _)); refine blk_far ?_ NB134_150.out _; (with_reducible repeat (first | refine blk_drewN ?_ _ | refine blk_drew ?_ | refine blk_alloc ?_ _)); refine blk_far ?_ NB134_150.out _; (with_reducible repeat (first | refine blk_drewN ?_ _ | refine blk_drew ?_ | refine blk_alloc ?_ _)); refine blk_far ?_ NB134_150.out _; (with_reducible repeat (first | refine blk_drewN ?_ _ | refine blk_drew ?_ | refine blk_alloc ?_ _)); exact BK134.out) NB134_0.out (by simp)); have n1_ := Aside0.mk (KeepBut.blk hk (g' := gb150) (o := .cells #[.int .i64 (wrap64 ((wrap64 (t138 - (ji8))) - 1)), .int .i64 t135, .int .i64 t141, .int .i64 (wrap64 (2 + t144)), .bool t147] 27 (0, 0)) (by (with_reducible repeat (first | refine blk_drewN ?_ _ | refine blk_drew ?_ | refine blk_alloc ?_ _)); refine blk_put (cs := #[.int .i64 (wrap64 ((wrap64 (t138 - (ji8))) - 1)), .int .i64 t135, .int .i64 t141, .int .i64 (wrap64 (2 + t144)), .bool false]) ?_ 4 _ rfl; (with_reducible repeat (first | refine blk_drewN ?_ _ | refine blk_drew ?_ | refine blk_alloc ?_ _)); refine blk_put (cs := #[.int .i64 (wrap64 ((wrap64 (t138 - (ji8))) - 1)), .int .i64 t135, .int .i64 t141, .int .i64 0, .bool false]) ?_ 3 _ rfl; (with_reducible repeat (first | refine blk_drewN ?_ _ | refine blk_drew ?_ | refine blk_alloc ?_ _)); refine blk_put (cs := #[.int .i64 (wrap64 ((wrap64 (t138 - (ji8))) - 1)), .int .i64 t135, .int .i64 0, .int .i64 0, .bool false]) ?_ 2 _ rfl; (with_reducible repeat (first | refine blk_drewN ?_ _ | refine blk_drew ?_ | refine blk_alloc ?_ _)); refine blk_put (cs := #[.int .i64 (wrap64 ((wrap64 (t138 - (ji8))) - 1)), .int .i64 0, .int .i64 0, .int .i64 0, .bool false]) ?_ 1 _ rfl; (with_reducible repeat (first | refine blk_drewN ?_ _ | refine blk_drew ?_ | refine blk_alloc ?_ _)); refine blk_put (cs := #[.int .i64 0, .int .i64 0, .int .i64 0, .int .i64 0, .bool false]) ?_ 0 _ rfl; (with_reducible repeat (first | refine blk_drewN ?_ _ | refine blk_drew ?_ | refine blk_alloc ?_ _)); exact BK150.out) NB150_0.out (by simp)); have n2_ := Aside0.mk (KeepBut.trans (kk2 HK.out GW134.out GW150.out) hk (.inl rfl)); have n3_ := Aside0.mk (hb); have n4_ := Aside0.mk (hi); clear BK134; clear BK150; clear HK; clear HB; clear HI0; have BK134 := n0_; have BK150 := n1_; have HK := n2_; have HB := n3_; have HI0 := n4_; clear n0_ n1_ n2_ n3_ n4_; (try clear hb); (try clear hb2); (try clear hk); (try clear hi)) | ((with_reducible refine gate_dst (N := 41) rfl ?_); refine Kd.R_lit (Kd.int .i64) _ 3 ?hg (N := 41) ?hd (xs := ([10, 11, (-1), 64] : List Int)) (inner := [.int .i64 10, .int .i64 11, .int .i64 (-1), .int .i64 64]) (ok := fun _ => True) (okp := fun _ => True) ?hr ?hp (fun _ hk => hk) trivial (Below.refl _ _) (Nat.le_refl _) (by simp) ?_; (case hd => rfl); (case hg => rfl); (case hr => first | (go_simp; done) | (go_simp; rfl)); (case hp => exact (Reps.one (show Kd.M (Kd.int .i64) _ _ _ 10 [.int .i64 10] from rfl) (Reps.one (show Kd.M (Kd.int .i64) _ _ _ 11 [.int .i64 11] from rfl) (Reps.one (show Kd.M (Kd.int .i64) _ _ _ (-1) [.int .i64 (-1)] from rfl) (Reps.one (show Kd.M (Kd.int .i64) _ _ _ 64 [.int .i64 64] from rfl) (Reps.none _ _)))))); intro v161 w56 ho57 hb hg_ hnew_; clear hg_ hnew_; (first | rw [← Ny160.out] at ho57 | (simp only [Int.reduceToNat] at ho57; rw [← Ny160.out] at ho57)); have n0_ := Aside0.mk (Kd.R_lower ho57 (keep_size (w := w) (g := g) (row := none) (kk2 HK.out GW134.out GW150.out))); have n1_ := Aside0.mk (IsS90.below (by repeat (first | (with_reducible first | exact HI0.out | apply IsS90.alloc | apply IsS90.drewN | apply IsS90.drew | apply IsS90.set_1 | apply IsS90.set_2 | refine IsS90.far ?_ NB0_134.out _ | refine IsS90.far ?_ NB0_150.out _) | exact HI0.out)) hb); have n2_ := Aside0.mk (blk_below (g := gb134) (o := .cells #[.int .i64 0, .int .i64 0, .int .i64 0, .int .i64 0, .bool false] 27 (0, 0)) (kb BK134.out) hb); have n3_ := Aside0.mk (blk_below (g := gb150) (o := .cells #[.int .i64 (wrap64 ((wrap64 (t138 - (ji8))) - 1)), .int .i64 t135, .int .i64 t141, .int .i64 (wrap64 (2 + t144)), .bool t147] 27 (0, 0)) (kb BK150.out) hb); have n4_ := Aside0.mk (KeepBut.trans (kk2 HK.out GW134.out GW150.out) (KeepBut.of_below hb g none) (.inl rfl)); have n5_ := Aside0.mk (below_step (bl3 HB.out (IsS90.ge HI0.out) GE134.out GE150.out) hb); clear HI0; clear BK134; clear BK150; clear HK; clear HB; have HO162 := n0_; have HI0 := n1_; have BK134 := n2_; have BK150 := n3_; have HK := n4_; have HB := n5_; clear n0_ n1_ n2_ n3_ n4_ n5_; clear hb ho57; obtain ⟨Ao58, co58, eo58⟩ := Kd.R_slice HO162.out; subst eo58) | ((with_reducible refine gate_callee (f := 110) rfl ?_); refine goesLS_ (some 42) Try.func110 #[.pointer (some ⟨g, 0, none⟩), .slice Ao58 y160.length co58] ?_; (with_reducible refine (spec_l1Cur_among.calls g s0_0 t152 t153 _ _ y160 t163 t164 t165 w0 _ ?side1 ?side2 ?side3 ?side4 ?side5 A40.out).mono ?_); (case side1 => repeat (first | (with_reducible first | exact HI0.out | apply IsS90.alloc | apply IsS90.drewN | apply IsS90.drew | apply IsS90.set_1 | apply IsS90.set_2 | refine IsS90.far ?_ NB0_134.out _ | refine IsS90.far ?_ NB0_150.out _) | exact HI0.out)); (case side2 => repeat (first | (with_reducible first | exact HB.out | apply below_alloc | apply pw_below_drewN | apply below_drew1 | refine below_set ?_ (IsS90.ge HI0.out) | refine below_set ?_ GE134.out | refine below_set ?_ GE150.out) | exact HB.out)); (case side3 => repeat (first | exact (Kd.R_reads' HO162.out).2.2 | (with_reducible refine Kd.C_alloc ?_ _) | (with_reducible refine Kd.C_drewN ?_ _) | (with_reducible refine Kd.C_drew ?_))); (case side4 => exact (Kd.R_reads' HO162.out).2.1); (case side5 => exact far_slice (IsS90.own_ne HI0.out HO162.out (by decide))); rintro e w59 ⟨rfl, hi, hb, hk⟩; refine ⟨_, rfl, ?_⟩; have n0_ := Aside0.mk (KeepBut.blk hk (g' := gb134) (o := .cells #[.int .i64 0, .int .i64 0, .int .i64 0, .int .i64 0, .bool false] 27 (0, 0)) (kb BK134.out) NB134_0.out (by simp)); have n1_ := Aside0.mk (KeepBut.blk hk (g' := gb150) (o := .cells #[.int .i64 (wrap64 ((wrap64 (t138 - (ji8))) - 1)), .int .i64 t135, .int .i64 t141, .int .i64 (wrap64 (2 + t144)), .bool t147] 27 (0, 0)) (kb BK150.out) NB150_0.out (by simp)); have n2_ := Aside0.mk (Kd.R_mono (Kd.R_keep (IsS90.apart (show IsS90 w0 _ g s0_0 t152 t153 from by repeat (first | (with_reducible first | exact HI0.out | apply IsS90.alloc | apply IsS90.drewN | apply IsS90.drew | apply IsS90.set_1 | apply IsS90.set_2 | refine IsS90.far ?_ NB0_134.out _ | refine IsS90.far ?_ NB0_150.out _) | exact HI0.out)) (kr HO162.out) (by decide)) hk (fun _ h => h.2)) (fun _ h => h.1)); have n3_ := Aside0.mk (KeepBut.trans (kk2 HK.out GW134.out GW150.out) hk (.inl rfl)); have n4_ := Aside0.mk (hb); have n5_ := Aside0.mk (hi); clear BK134; clear BK150; clear HO162; clear HK; clear HB; clear HI0; have BK134 := n0_; have BK150 := n1_; have HO162 := n2_; have HK := n3_; have HB := n4_; have HI0 := n5_; clear n0_ n1_ n2_ n3_ n4_ n5_; (try clear hb); (try clear hb2); (try clear hk); (try clear hi); have hnb60 := NB150_134.out; have hnc60 := NB134_150.out; have hnb61 := NB150_0.out; have hnc61 := NB0_150.out; have hcz62_0 : w59.cell? ⟨gb150, 0, none⟩ = some (.int .i64 (wrap64 ((wrap64 (t138 - (ji8))) - 1))) := (blk_cell BK150.out 0).trans rfl; have hcz62_1 : w59.cell? ⟨gb150, 1, none⟩ = some (.int .i64 t135) := (blk_cell BK150.out 1).trans rfl; have hcz62_2 : w59.cell? ⟨gb150, 2, none⟩ = some (.int .i64 t141) := (blk_cell BK150.out 2).trans rfl; have hcz62_3 : w59.cell? ⟨gb150, 3, none⟩ = some (.int .i64 (wrap64 (2 + t144))) := (blk_cell BK150.out 3).trans rfl; have hcz62_4 : w59.cell? ⟨gb150, 4, none⟩ = some (.bool t147) := (blk_cell BK150.out 4).trans rfl; have hfz62_0 := blk_frozen BK150.out 0; have hfz62_1 := blk_frozen BK150.out 1; have hfz62_2 := blk_frozen BK150.out 2; have hfz62_3 := blk_frozen BK150.out 3; have hfz62_4 := blk_frozen BK150.out 4; have hnb63 := NB134_0.out; have hnc63 := NB0_134.out; obtain ⟨hcz64_0, hcz64_1, hcz64_2, hcz64_3, hcz64_4, hfz64_0, hfz64_1, hfz64_2, hfz64_3, hfz64_4⟩ := cz5 BK134.out))
    refine bodyPost_ret (results_cell_row rfl _ _ gb134 27 #[.int .i64 (wrap64 ((wrap64 (t138 - (ji8))) - 1)), .int .i64 t163, .int .i64 t141, .int .i64 (wrap64 (2 + t144)), .bool t147] (0, 0) _ rfl (by (with_reducible repeat (first | refine blk_drewN ?_ _ | refine blk_drew ?_ | refine blk_alloc ?_ _)); refine blk_put (cs := #[.int .i64 (wrap64 ((wrap64 (t138 - (ji8))) - 1)), .int .i64 t163, .int .i64 t141, .int .i64 (wrap64 (2 + t144)), .bool false]) ?_ 4 _ rfl; (with_reducible repeat (first | refine blk_drewN ?_ _ | refine blk_drew ?_ | refine blk_alloc ?_ _)); refine blk_put (cs := #[.int .i64 (wrap64 ((wrap64 (t138 - (ji8))) - 1)), .int .i64 t163, .int .i64 t141, .int .i64 0, .bool false]) ?_ 3 _ rfl; (with_reducible repeat (first | refine blk_drewN ?_ _ | refine blk_drew ?_ | refine blk_alloc ?_ _)); refine blk_put (cs := #[.int .i64 (wrap64 ((wrap64 (t138 - (ji8))) - 1)), .int .i64 t163, .int .i64 0, .int .i64 0, .bool false]) ?_ 2 _ rfl; (with_reducible repeat (first | refine blk_drewN ?_ _ | refine blk_drew ?_ | refine blk_alloc ?_ _)); refine blk_put (cs := #[.int .i64 (wrap64 ((wrap64 (t138 - (ji8))) - 1)), .int .i64 0, .int .i64 0, .int .i64 0, .bool false]) ?_ 1 _ rfl; (with_reducible repeat (first | refine blk_drewN ?_ _ | refine blk_drew ?_ | refine blk_alloc ?_ _)); refine blk_put (cs := #[.int .i64 0, .int .i64 0, .int .i64 0, .int .i64 0, .bool false]) ?_ 0 _ rfl; (with_reducible repeat (first | refine blk_drewN ?_ _ | refine blk_drew ?_ | refine blk_alloc ?_ _)); refine blk_far ?_ NB134_150.out _; (with_reducible repeat (first | refine blk_drewN ?_ _ | refine blk_drew ?_ | refine blk_alloc ?_ _)); exact BK134.out) Try.underlying27 rfl (by kernel_rfl)) rfl ?_
    exact ⟨by first | rfl | (simp [errW_none, errW_some] <;> rfl) | (simp only [← hji5, ← hji8]; first | rfl | (simp [errW_none, errW_some] <;> rfl)) | (simp [*, errW_none, errW_some] <;> rfl), by repeat (first | (with_reducible first | exact HI0.out | apply IsS90.alloc | apply IsS90.drewN | apply IsS90.drew | apply IsS90.set_1 | apply IsS90.set_2 | refine IsS90.far ?_ NB0_134.out _ | refine IsS90.far ?_ NB0_150.out _) | exact HI0.out), bl3 HB.out (IsS90.ge HI0.out) GE134.out GE150.out, kk2 HK.out GW134.out GW150.out⟩
   ·rw [if_neg c39] at H
    have c39b0 : (t151 == 1) = false := beq_eq_false_iff_ne.mpr c39
    have c39b1 : (t151 != 1) = true := bne_iff_ne.mpr c39
    by_cases c65 : t151 = 2
    ·rw [if_pos c65] at H
     have c65b0 : (t151 == 2) = true := beq_iff_eq.mpr c65
     have c65b1 : (t151 != 2) = false := bne_eq_false_iff_eq.mpr c65
     clear c65
     obtain ⟨y166, hy166⟩ : ∃ y_ : List Int, y_ = (([3, (-1)] : List Int)) := ⟨_, rfl⟩
     replace H : ((spec_l1Cur_among.f s0_0 t152 t153 y166).bind fun bt169 => (some (wrap64 ((wrap64 (t138 - (ji8))) - 1), t135, bt169.1, wrap64 (2 + t144), t147, bt169.2.1, bt169.2.2))) = some (r1, r2, r3, r4, r5, r6, r7) := by first | (rw [hy166]; with_reducible exact H) | (have H2_ := (Option.bind_some _ _).symm.trans H; rw [hy166]; with_reducible exact H2_) | (have H2_ := (Option.bind_some _ _).symm.trans H; with_reducible exact H2_) | with_reducible exact H | (rw [hy166]; exact H) | exact H
     have Ny166 := Aside0.mk hy166
     clear hy166
     replace H := Option.bind_eq_some_iff.mp H
     obtain ⟨⟨t169, t170, t171⟩, A660, H⟩ := H
     (try dsimp only at H)
     have A66 := Aside0.mk A660
     clear A660
     simp only [Option.some.injEq, Prod.mk.injEq] at H
     obtain ⟨rfl, rfl, rfl, rfl, rfl, rfl, rfl⟩ := H
     try go_wp2_with (first | ((with_reducible refine gate_callee (f := 157) rfl ?_); refine goesLS_ (some 31) Try.func157 #[.pointer (some ⟨g, 0, none⟩), .int .i64 18] ?_; (with_reducible refine (spec_l1Cur_pick.calls g s0_0 t148 t149 18 t151 t152 t153 w0 _ ?side1 ?side2 A12.out).mono ?_); (case side1 => repeat (first | (with_reducible first | exact HI0.out | apply IsS90.alloc | apply IsS90.drewN | apply IsS90.drew | apply IsS90.set_1 | apply IsS90.set_2 | refine IsS90.far ?_ NB0_134.out _ | refine IsS90.far ?_ NB0_150.out _) | exact HI0.out)); (case side2 => repeat (first | (with_reducible first | exact HB.out | apply below_alloc | apply pw_below_drewN | apply below_drew1 | refine below_set ?_ (IsS90.ge HI0.out) | refine below_set ?_ GE134.out | refine below_set ?_ GE150.out) | exact HB.out)); rintro e w81 ⟨rfl, hi, hb, hk⟩; refine ⟨_, rfl, ?_⟩; have n0_ := Aside0.mk (KeepBut.blk hk (g' := gb134) (o := .cells #[.int .i64 0, .int .i64 0, .int .i64 0, .int .i64 0, .bool false] 27 (0, 0)) (by (with_reducible repeat (first | refine blk_drewN ?_ _ | refine blk_drew ?_ | refine blk_alloc ?_ _)); refine blk_far ?_ NB134_150.out _; (with_reducible repeat (first | refine blk_drewN ?_ _ | refine blk_drew ?_ | refine blk_alloc ?_ _)); refine blk_far ?_ NB134_150.out _; (with_reducible repeat (first | refine blk_drewN ?_ _ | refine blk_drew ?_ | refine blk_alloc ?_ _)); refine blk_far ?_ NB134_150.out _; (with_reducible repeat (first | refine blk_drewN ?_ _ | refine blk_drew ?_ | refine blk_alloc ?_ _)); refine blk_far ?_ NB134_150.out _; (with_reducible repeat (first | refine blk_drewN ?_ _ | refine blk_drew ?_ | refine blk_alloc ?_ _)); refine blk_far ?_ NB134_150.out _; (with_reducible repeat (first | refine blk_drewN ?_ _ | refine blk_drew ?_ | refine blk_alloc ?_ _)); exact BK134.out) NB134_0.out (by simp)); have n1_ := Aside0.mk (KeepBut.blk hk (g' := gb150) (o := .cells #[.int .i64 (wrap64 ((wrap64 (t138 - (ji8))) - 1)), .int .i64 t135, .int .i64 t141, .int .i64 (wrap64 (2 + t144)), .bool t147] 27 (0, 0)) (by (with_reducible repeat (first | refine blk_drewN ?_ _ | refine blk_drew ?_ | refine blk_alloc ?_ _)); refine blk_put (cs := #[.int .i64 (wrap64 ((wrap64 (t138 - (ji8))) - 1)), .int .i64 t135, .int .i64 t141, .int .i64 (wrap64 (2 + t144)), .bool false]) ?_ 4 _ rfl; (with_reducible repeat (first | refine blk_drewN ?_ _ | refine blk_drew ?_ | refine blk_alloc ?_ _)); refine blk_put (cs := #[.int .i64 (wrap64 ((wrap64 (t138 - (ji8))) - 1)), .int .i64 t135, .int .i64 t141, .int .i64 0, .bool false]) ?_ 3 _ rfl; (with_reducible repeat (first | refine blk_drewN ?_ _ | refine blk_drew ?_ | refine blk_alloc ?_ _)); refine blk_put (cs := #[.int .i64 (wrap64 ((wrap64 (t138 - (ji8))) - 1)), .int .i64 t135, .int .i64 0, .int .i64 0, .bool false]) ?_ 2 _ rfl; (with_reducible repeat (first | refine blk_drewN ?_ _ | refine blk_drew ?_ | refine blk_alloc ?_ _)); refine blk_put (cs := #[.int .i64 (wrap64 ((wrap64 (t138 - (ji8))) - 1)), .int .i64 0, .int .i64 0, .int .i64 0, .bool false]) ?_ 1 _ rfl; (with_reducible repeat (first | refine blk_drewN ?_ _ | refine blk_drew ?_ | refine blk_alloc ?_ _)); refine blk_put (cs := #[.int .i64 0, .int .i64 0, .int .i64 0, .int .i64 0, .bool false]) ?_ 0 _ rfl; (with_reducible repeat (first | refine blk_drewN ?_ _ | refine blk_drew ?_ | refine blk_alloc ?_ _)); exact BK150.out) NB150_0.out (by simp)); have n2_ := Aside0.mk (KeepBut.trans (kk2 HK.out GW134.out GW150.out) hk (.inl rfl)); have n3_ := Aside0.mk (hb); have n4_ := Aside0.mk (hi); clear BK134; clear BK150; clear HK; clear HB; clear HI0; have BK134 := n0_; have BK150 := n1_; have HK := n2_; have HB := n3_; have HI0 := n4_; clear n0_ n1_ n2_ n3_ n4_; (try clear hb); (try clear hb2); (try clear hk); (try clear hi)) | ((with_reducible refine gate_dst (N := 47) rfl ?_); refine Kd.R_lit (Kd.int .i64) _ 3 ?hg (N := 47) ?hd (xs := ([3, (-1)] : List Int)) (inner := [.int .i64 3, .int .i64 (-1)]) (ok := fun _ => True) (okp := fun _ => True) ?hr ?hp (fun _ hk => hk) trivial (Below.refl _ _) (Nat.le_refl _) (by simp) ?_; (case hd => rfl); (case hg => rfl); (case hr => first | (go_simp; done) | (go_simp; rfl)); (case hp => exact (Reps.one (show Kd.M (Kd.int .i64) _ _ _ 3 [.int .i64 3] from rfl) (Reps.one (show Kd.M (Kd.int .i64) _ _ _ (-1) [.int .i64 (-1)] from rfl) (Reps.none _ _)))); intro v167 w82 ho83 hb hg_ hnew_; clear hg_ hnew_; (first | rw [← Ny166.out] at ho83 | (simp only [Int.reduceToNat] at ho83; rw [← Ny166.out] at ho83)); have n0_ := Aside0.mk (Kd.R_lower ho83 (keep_size (w := w) (g := g) (row := none) (kk2 HK.out GW134.out GW150.out))); have n1_ := Aside0.mk (IsS90.below (by repeat (first | (with_reducible first | exact HI0.out | apply IsS90.alloc | apply IsS90.drewN | apply IsS90.drew | apply IsS90.set_1 | apply IsS90.set_2 | refine IsS90.far ?_ NB0_134.out _ | refine IsS90.far ?_ NB0_150.out _) | exact HI0.out)) hb); have n2_ := Aside0.mk (blk_below (g := gb134) (o := .cells #[.int .i64 0, .int .i64 0, .int .i64 0, .int .i64 0, .bool false] 27 (0, 0)) (kb BK134.out) hb); have n3_ := Aside0.mk (blk_below (g := gb150) (o := .cells #[.int .i64 (wrap64 ((wrap64 (t138 - (ji8))) - 1)), .int .i64 t135, .int .i64 t141, .int .i64 (wrap64 (2 + t144)), .bool t147] 27 (0, 0)) (kb BK150.out) hb); have n4_ := Aside0.mk (KeepBut.trans (kk2 HK.out GW134.out GW150.out) (KeepBut.of_below hb g none) (.inl rfl)); have n5_ := Aside0.mk (below_step (bl3 HB.out (IsS90.ge HI0.out) GE134.out GE150.out) hb); clear HI0; clear BK134; clear BK150; clear HK; clear HB; have HO168 := n0_; have HI0 := n1_; have BK134 := n2_; have BK150 := n3_; have HK := n4_; have HB := n5_; clear n0_ n1_ n2_ n3_ n4_ n5_; clear hb ho83; obtain ⟨Ao84, co84, eo84⟩ := Kd.R_slice HO168.out; subst eo84) | ((with_reducible refine gate_callee (f := 110) rfl ?_); refine goesLS_ (some 48) Try.func110 #[.pointer (some ⟨g, 0, none⟩), .slice Ao84 y166.length co84] ?_; (with_reducible refine (spec_l1Cur_among.calls g s0_0 t152 t153 _ _ y166 t169 t170 t171 w0 _ ?side1 ?side2 ?side3 ?side4 ?side5 A66.out).mono ?_); (case side1 => repeat (first | (with_reducible first | exact HI0.out | apply IsS90.alloc | apply IsS90.drewN | apply IsS90.drew | apply IsS90.set_1 | apply IsS90.set_2 | refine IsS90.far ?_ NB0_134.out _ | refine IsS90.far ?_ NB0_150.out _) | exact HI0.out)); (case side2 => repeat (first | (with_reducible first | exact HB.out | apply below_alloc | apply pw_below_drewN | apply below_drew1 | refine below_set ?_ (IsS90.ge HI0.out) | refine below_set ?_ GE134.out | refine below_set ?_ GE150.out) | exact HB.out)); (case side3 => repeat (first | exact (Kd.R_reads' HO168.out).2.2 | (with_reducible refine Kd.C_alloc ?_ _) | (with_reducible refine Kd.C_drewN ?_ _) | (with_reducible refine Kd.C_drew ?_))); (case side4 => exact (Kd.R_reads' HO168.out).2.1); (case side5 => exact far_slice (IsS90.own_ne HI0.out HO168.out (by decide))); rintro e w85 ⟨rfl, hi, hb, hk⟩; refine ⟨_, rfl, ?_⟩; have n0_ := Aside0.mk (KeepBut.blk hk (g' := gb134) (o := .cells #[.int .i64 0, .int .i64 0, .int .i64 0, .int .i64 0, .bool false] 27 (0, 0)) (kb BK134.out) NB134_0.out (by simp)); have n1_ := Aside0.mk (KeepBut.blk hk (g' := gb150) (o := .cells #[.int .i64 (wrap64 ((wrap64 (t138 - (ji8))) - 1)), .int .i64 t135, .int .i64 t141, .int .i64 (wrap64 (2 + t144)), .bool t147] 27 (0, 0)) (kb BK150.out) NB150_0.out (by simp)); have n2_ := Aside0.mk (Kd.R_mono (Kd.R_keep (IsS90.apart (show IsS90 w0 _ g s0_0 t152 t153 from by repeat (first | (with_reducible first | exact HI0.out | apply IsS90.alloc | apply IsS90.drewN | apply IsS90.drew | apply IsS90.set_1 | apply IsS90.set_2 | refine IsS90.far ?_ NB0_134.out _ | refine IsS90.far ?_ NB0_150.out _) | exact HI0.out)) (kr HO168.out) (by decide)) hk (fun _ h => h.2)) (fun _ h => h.1)); have n3_ := Aside0.mk (KeepBut.trans (kk2 HK.out GW134.out GW150.out) hk (.inl rfl)); have n4_ := Aside0.mk (hb); have n5_ := Aside0.mk (hi); clear BK134; clear BK150; clear HO168; clear HK; clear HB; clear HI0; have BK134 := n0_; have BK150 := n1_; have HO168 := n2_; have HK := n3_; have HB := n4_; have HI0 := n5_; clear n0_ n1_ n2_ n3_ n4_ n5_; (try clear hb); (try clear hb2); (try clear hk); (try clear hi); have hnb86 := NB150_134.out; have hnc86 := NB134_150.out; have hnb87 := NB150_0.out; have hnc87 := NB0_150.out; have hcz88_0 : w85.cell? ⟨gb150, 0, none⟩ = some (.int .i64 (wrap64 ((wrap64 (t138 - (ji8))) - 1))) := (blk_cell BK150.out 0).trans rfl; have hcz88_1 : w85.cell? ⟨gb150, 1, none⟩ = some (.int .i64 t135) := (blk_cell BK150.out 1).trans rfl; have hcz88_2 : w85.cell? ⟨gb150, 2, none⟩ = some (.int .i64 t141) := (blk_cell BK150.out 2).trans rfl; have hcz88_3 : w85.cell? ⟨gb150, 3, none⟩ = some (.int .i64 (wrap64 (2 + t144))) := (blk_cell BK150.out 3).trans rfl; have hcz88_4 : w85.cell? ⟨gb150, 4, none⟩ = some (.bool t147) := (blk_cell BK150.out 4).trans rfl; have hfz88_0 := blk_frozen BK150.out 0; have hfz88_1 := blk_frozen BK150.out 1; have hfz88_2 := blk_frozen BK150.out 2; have hfz88_3 := blk_frozen BK150.out 3; have hfz88_4 := blk_frozen BK150.out 4; have hnb89 := NB134_0.out; have hnc89 := NB0_134.out; obtain ⟨hcz90_0, hcz90_1, hcz90_2, hcz90_3, hcz90_4, hfz90_0, hfz90_1, hfz90_2, hfz90_3, hfz90_4⟩ := cz5 BK134.out))
     refine bodyPost_ret (results_cell_row rfl _ _ gb134 27 #[.int .i64 (wrap64 ((wrap64 (t138 - (ji8))) - 1)), .int .i64 t135, .int .i64 t169, .int .i64 (wrap64 (2 + t144)), .bool t147] (0, 0) _ rfl (by (with_reducible repeat (first | refine blk_drewN ?_ _ | refine blk_drew ?_ | refine blk_alloc ?_ _)); refine blk_put (cs := #[.int .i64 (wrap64 ((wrap64 (t138 - (ji8))) - 1)), .int .i64 t135, .int .i64 t169, .int .i64 (wrap64 (2 + t144)), .bool false]) ?_ 4 _ rfl; (with_reducible repeat (first | refine blk_drewN ?_ _ | refine blk_drew ?_ | refine blk_alloc ?_ _)); refine blk_put (cs := #[.int .i64 (wrap64 ((wrap64 (t138 - (ji8))) - 1)), .int .i64 t135, .int .i64 t169, .int .i64 0, .bool false]) ?_ 3 _ rfl; (with_reducible repeat (first | refine blk_drewN ?_ _ | refine blk_drew ?_ | refine blk_alloc ?_ _)); refine blk_put (cs := #[.int .i64 (wrap64 ((wrap64 (t138 - (ji8))) - 1)), .int .i64 t135, .int .i64 0, .int .i64 0, .bool false]) ?_ 2 _ rfl; (with_reducible repeat (first | refine blk_drewN ?_ _ | refine blk_drew ?_ | refine blk_alloc ?_ _)); refine blk_put (cs := #[.int .i64 (wrap64 ((wrap64 (t138 - (ji8))) - 1)), .int .i64 0, .int .i64 0, .int .i64 0, .bool false]) ?_ 1 _ rfl; (with_reducible repeat (first | refine blk_drewN ?_ _ | refine blk_drew ?_ | refine blk_alloc ?_ _)); refine blk_put (cs := #[.int .i64 0, .int .i64 0, .int .i64 0, .int .i64 0, .bool false]) ?_ 0 _ rfl; (with_reducible repeat (first | refine blk_drewN ?_ _ | refine blk_drew ?_ | refine blk_alloc ?_ _)); refine blk_far ?_ NB134_150.out _; (with_reducible repeat (first | refine blk_drewN ?_ _ | refine blk_drew ?_ | refine blk_alloc ?_ _)); exact BK134.out) Try.underlying27 rfl (by kernel_rfl)) rfl ?_
     exact ⟨by first | rfl | (simp [errW_none, errW_some] <;> rfl) | (simp only [← hji5, ← hji8]; first | rfl | (simp [errW_none, errW_some] <;> rfl)) | (simp [*, errW_none, errW_some] <;> rfl), by repeat (first | (with_reducible first | exact HI0.out | apply IsS90.alloc | apply IsS90.drewN | apply IsS90.drew | apply IsS90.set_1 | apply IsS90.set_2 | refine IsS90.far ?_ NB0_134.out _ | refine IsS90.far ?_ NB0_150.out _) | exact HI0.out), bl3 HB.out (IsS90.ge HI0.out) GE134.out GE150.out, kk2 HK.out GW134.out GW150.out⟩
    ·rw [if_neg c65] at H
     have c65b0 : (t151 == 2) = false := beq_eq_false_iff_ne.mpr c65
     have c65b1 : (t151 != 2) = true := bne_iff_ne.mpr c65
     by_cases c91 : t151 = 3
     ·rw [if_pos c91] at H
      have c91b0 : (t151 == 3) = true := beq_iff_eq.mpr c91
      have c91b1 : (t151 != 3) = false := bne_eq_false_iff_eq.mpr c91
      clear c91
      replace H := Option.bind_eq_some_iff.mp H
      obtain ⟨⟨t172, t173, t174, t175⟩, A920, H⟩ := H
      (try dsimp only at H)
      have A92 := Aside0.mk A920
      clear A920
      simp only [Option.some.injEq, Prod.mk.injEq] at H
      obtain ⟨rfl, rfl, rfl, rfl, rfl, rfl, rfl⟩ := H
      try go_wp2_with (first | ((with_reducible refine gate_callee (f := 157) rfl ?_); refine goesLS_ (some 31) Try.func157 #[.pointer (some ⟨g, 0, none⟩), .int .i64 18] ?_; (with_reducible refine (spec_l1Cur_pick.calls g s0_0 t148 t149 18 t151 t152 t153 w0 _ ?side1 ?side2 A12.out).mono ?_); (case side1 => repeat (first | (with_reducible first | exact HI0.out | apply IsS90.alloc | apply IsS90.drewN | apply IsS90.drew | apply IsS90.set_1 | apply IsS90.set_2 | refine IsS90.far ?_ NB0_134.out _ | refine IsS90.far ?_ NB0_150.out _) | exact HI0.out)); (case side2 => repeat (first | (with_reducible first | exact HB.out | apply below_alloc | apply pw_below_drewN | apply below_drew1 | refine below_set ?_ (IsS90.ge HI0.out) | refine below_set ?_ GE134.out | refine below_set ?_ GE150.out) | exact HB.out)); rintro e w107 ⟨rfl, hi, hb, hk⟩; refine ⟨_, rfl, ?_⟩; have n0_ := Aside0.mk (KeepBut.blk hk (g' := gb134) (o := .cells #[.int .i64 0, .int .i64 0, .int .i64 0, .int .i64 0, .bool false] 27 (0, 0)) (by (with_reducible repeat (first | refine blk_drewN ?_ _ | refine blk_drew ?_ | refine blk_alloc ?_ _)); refine blk_far ?_ NB134_150.out _; (with_reducible repeat (first | refine blk_drewN ?_ _ | refine blk_drew ?_ | refine blk_alloc ?_ _)); refine blk_far ?_ NB134_150.out _; (with_reducible repeat (first | refine blk_drewN ?_ _ | refine blk_drew ?_ | refine blk_alloc ?_ _)); refine blk_far ?_ NB134_150.out _; (with_reducible repeat (first | refine blk_drewN ?_ _ | refine blk_drew ?_ | refine blk_alloc ?_ _)); refine blk_far ?_ NB134_150.out _; (with_reducible repeat (first | refine blk_drewN ?_ _ | refine blk_drew ?_ | refine blk_alloc ?_ _)); refine blk_far ?_ NB134_150.out _; (with_reducible repeat (first | refine blk_drewN ?_ _ | refine blk_drew ?_ | refine blk_alloc ?_ _)); exact BK134.out) NB134_0.out (by simp)); have n1_ := Aside0.mk (KeepBut.blk hk (g' := gb150) (o := .cells #[.int .i64 (wrap64 ((wrap64 (t138 - (ji8))) - 1)), .int .i64 t135, .int .i64 t141, .int .i64 (wrap64 (2 + t144)), .bool t147] 27 (0, 0)) (by (with_reducible repeat (first | refine blk_drewN ?_ _ | refine blk_drew ?_ | refine blk_alloc ?_ _)); refine blk_put (cs := #[.int .i64 (wrap64 ((wrap64 (t138 - (ji8))) - 1)), .int .i64 t135, .int .i64 t141, .int .i64 (wrap64 (2 + t144)), .bool false]) ?_ 4 _ rfl; (with_reducible repeat (first | refine blk_drewN ?_ _ | refine blk_drew ?_ | refine blk_alloc ?_ _)); refine blk_put (cs := #[.int .i64 (wrap64 ((wrap64 (t138 - (ji8))) - 1)), .int .i64 t135, .int .i64 t141, .int .i64 0, .bool false]) ?_ 3 _ rfl; (with_reducible repeat (first | refine blk_drewN ?_ _ | refine blk_drew ?_ | refine blk_alloc ?_ _)); refine blk_put (cs := #[.int .i64 (wrap64 ((wrap64 (t138 - (ji8))) - 1)), .int .i64 t135, .int .i64 0, .int .i64 0, .bool false]) ?_ 2 _ rfl; (with_reducible repeat (first | refine blk_drewN ?_ _ | refine blk_drew ?_ | refine blk_alloc ?_ _)); refine blk_put (cs := #[.int .i64 (wrap64 ((wrap64 (t138 - (ji8))) - 1)), .int .i64 0, .int .i64 0, .int .i64 0, .bool false]) ?_ 1 _ rfl; (with_reducible repeat (first | refine blk_drewN ?_ _ | refine blk_drew ?_ | refine blk_alloc ?_ _)); refine blk_put (cs := #[.int .i64 0, .int .i64 0, .int .i64 0, .int .i64 0, .bool false]) ?_ 0 _ rfl; (with_reducible repeat (first | refine blk_drewN ?_ _ | refine blk_drew ?_ | refine blk_alloc ?_ _)); exact BK150.out) NB150_0.out (by simp)); have n2_ := Aside0.mk (KeepBut.trans (kk2 HK.out GW134.out GW150.out) hk (.inl rfl)); have n3_ := Aside0.mk (hb); have n4_ := Aside0.mk (hi); clear BK134; clear BK150; clear HK; clear HB; clear HI0; have BK134 := n0_; have BK150 := n1_; have HK := n2_; have HB := n3_; have HI0 := n4_; clear n0_ n1_ n2_ n3_ n4_; (try clear hb); (try clear hb2); (try clear hk); (try clear hi)) | ((with_reducible refine gate_callee (f := 159) rfl ?_); refine goesLS_ (some 53) Try.func159 #[.pointer (some ⟨g, 0, none⟩)] ?_; (with_reducible refine (spec_l1Cur_word.calls g s0_0 t152 t153 t172 t173 t174 t175 w0 _ ?side1 ?side2 A92.out).mono ?_); (case side1 => repeat (first | (with_reducible first | exact HI0.out | apply IsS90.alloc | apply IsS90.drewN | apply IsS90.drew | apply IsS90.set_1 | apply IsS90.set_2 | refine IsS90.far ?_ NB0_134.out _ | refine IsS90.far ?_ NB0_150.out _) | exact HI0.out)); (case side2 => repeat (first | (with_reducible first | exact HB.out | apply below_alloc | apply pw_below_drewN | apply below_drew1 | refine below_set ?_ (IsS90.ge HI0.out) | refine below_set ?_ GE134.out | refine below_set ?_ GE150.out) | exact HB.out)); rintro e w108 ⟨rfl, hi, hb, hk⟩; refine ⟨_, rfl, ?_⟩; have n0_ := Aside0.mk (KeepBut.blk hk (g' := gb134) (o := .cells #[.int .i64 0, .int .i64 0, .int .i64 0, .int .i64 0, .bool false] 27 (0, 0)) (kb BK134.out) NB134_0.out (by simp)); have n1_ := Aside0.mk (KeepBut.blk hk (g' := gb150) (o := .cells #[.int .i64 (wrap64 ((wrap64 (t138 - (ji8))) - 1)), .int .i64 t135, .int .i64 t141, .int .i64 (wrap64 (2 + t144)), .bool t147] 27 (0, 0)) (kb BK150.out) NB150_0.out (by simp)); have n2_ := Aside0.mk (KeepBut.trans (kk2 HK.out GW134.out GW150.out) hk (.inl rfl)); have n3_ := Aside0.mk (hb); have n4_ := Aside0.mk (hi); clear BK134; clear BK150; clear HK; clear HB; clear HI0; have BK134 := n0_; have BK150 := n1_; have HK := n2_; have HB := n3_; have HI0 := n4_; clear n0_ n1_ n2_ n3_ n4_; (try clear hb); (try clear hb2); (try clear hk); (try clear hi); have hnb109 := NB150_134.out; have hnc109 := NB134_150.out; have hnb110 := NB150_0.out; have hnc110 := NB0_150.out; have hcz111_0 : w108.cell? ⟨gb150, 0, none⟩ = some (.int .i64 (wrap64 ((wrap64 (t138 - (ji8))) - 1))) := (blk_cell BK150.out 0).trans rfl; have hcz111_1 : w108.cell? ⟨gb150, 1, none⟩ = some (.int .i64 t135) := (blk_cell BK150.out 1).trans rfl; have hcz111_2 : w108.cell? ⟨gb150, 2, none⟩ = some (.int .i64 t141) := (blk_cell BK150.out 2).trans rfl; have hcz111_3 : w108.cell? ⟨gb150, 3, none⟩ = some (.int .i64 (wrap64 (2 + t144))) := (blk_cell BK150.out 3).trans rfl; have hcz111_4 : w108.cell? ⟨gb150, 4, none⟩ = some (.bool t147) := (blk_cell BK150.out 4).trans rfl; have hfz111_0 := blk_frozen BK150.out 0; have hfz111_1 := blk_frozen BK150.out 1; have hfz111_2 := blk_frozen BK150.out 2; have hfz111_3 := blk_frozen BK150.out 3; have hfz111_4 := blk_frozen BK150.out 4; have hnb112 := NB134_0.out; have hnc112 := NB0_134.out; obtain ⟨hcz113_0, hcz113_1, hcz113_2, hcz113_3, hcz113_4, hfz113_0, hfz113_1, hfz113_2, hfz113_3, hfz113_4⟩ := cz5 BK134.out))
      refine bodyPost_ret (results_cell_row rfl _ _ gb134 27 #[.int .i64 (wrap64 ((wrap64 (t138 - (ji8))) - 1)), .int .i64 t135, .int .i64 t141, .int .i64 t172, .bool t173] (0, 0) _ rfl (by (with_reducible repeat (first | refine blk_drewN ?_ _ | refine blk_drew ?_ | refine blk_alloc ?_ _)); refine blk_put (cs := #[.int .i64 (wrap64 ((wrap64 (t138 - (ji8))) - 1)), .int .i64 t135, .int .i64 t141, .int .i64 t172, .bool false]) ?_ 4 _ rfl; (with_reducible repeat (first | refine blk_drewN ?_ _ | refine blk_drew ?_ | refine blk_alloc ?_ _)); refine blk_put (cs := #[.int .i64 (wrap64 ((wrap64 (t138 - (ji8))) - 1)), .int .i64 t135, .int .i64 t141, .int .i64 0, .bool false]) ?_ 3 _ rfl; (with_reducible repeat (first | refine blk_drewN ?_ _ | refine blk_drew ?_ | refine blk_alloc ?_ _)); refine blk_put (cs := #[.int .i64 (wrap64 ((wrap64 (t138 - (ji8))) - 1)), .int .i64 t135, .int .i64 0, .int .i64 0, .bool false]) ?_ 2 _ rfl; (with_reducible repeat (first | refine blk_drewN ?_ _ | refine blk_drew ?_ | refine blk_alloc ?_ _)); refine blk_put (cs := #[.int .i64 (wrap64 ((wrap64 (t138 - (ji8))) - 1)), .int .i64 0, .int .i64 0, .int .i64 0, .bool false]) ?_ 1 _ rfl; (with_reducible repeat (first | refine blk_drewN ?_ _ | refine blk_drew ?_ | refine blk_alloc ?_ _)); refine blk_put (cs := #[.int .i64 0, .int .i64 0, .int .i64 0, .int .i64 0, .bool false]) ?_ 0 _ rfl; (with_reducible repeat (first | refine blk_drewN ?_ _ | refine blk_drew ?_ | refine blk_alloc ?_ _)); refine blk_far ?_ NB134_150.out _; (with_reducible repeat (first | refine blk_drewN ?_ _ | refine blk_drew ?_ | refine blk_alloc ?_ _)); refine blk_far ?_ NB134_150.out _; (with_reducible repeat (first | refine blk_drewN ?_ _ | refine blk_drew ?_ | refine blk_alloc ?_ _)); exact BK134.out) Try.underlying27 rfl (by kernel_rfl)) rfl ?_
      exact ⟨by first | rfl | (simp [errW_none, errW_some] <;> rfl) | (simp only [← hji5, ← hji8]; first | rfl | (simp [errW_none, errW_some] <;> rfl)) | (simp [*, errW_none, errW_some] <;> rfl), by repeat (first | (with_reducible first | exact HI0.out | apply IsS90.alloc | apply IsS90.drewN | apply IsS90.drew | apply IsS90.set_1 | apply IsS90.set_2 | refine IsS90.far ?_ NB0_134.out _ | refine IsS90.far ?_ NB0_150.out _) | exact HI0.out), bl3 HB.out (IsS90.ge HI0.out) GE134.out GE150.out, kk2 HK.out GW134.out GW150.out⟩
     ·rw [if_neg c91] at H
      have c91b0 : (t151 == 3) = false := beq_eq_false_iff_ne.mpr c91
      have c91b1 : (t151 != 3) = true := bne_iff_ne.mpr c91
      simp only [Option.some.injEq, Prod.mk.injEq] at H
      obtain ⟨rfl, rfl, rfl, rfl, rfl, rfl, rfl⟩ := H
      try go_wp2_with (first | ((with_reducible refine gate_callee (f := 157) rfl ?_); refine goesLS_ (some 31) Try.func157 #[.pointer (some ⟨g, 0, none⟩), .int .i64 18] ?_; (with_reducible refine (spec_l1Cur_pick.calls g s0_0 t148 t149 18 t151 t152 t153 w0 _ ?side1 ?side2 A12.out).mono ?_); (case side1 => repeat (first | (with_reducible first | exact HI0.out | apply IsS90.alloc | apply IsS90.drewN | apply IsS90.drew | apply IsS90.set_1 | apply IsS90.set_2 | refine IsS90.far ?_ NB0_134.out _ | refine IsS90.far ?_ NB0_150.out _) | exact HI0.out)); (case side2 => repeat (first | (with_reducible first | exact HB.out | apply below_alloc | apply pw_below_drewN | apply below_drew1 | refine below_set ?_ (IsS90.ge HI0.out) | refine below_set ?_ GE134.out | refine below_set ?_ GE150.out) | exact HB.out)); rintro e w128 ⟨rfl, hi, hb, hk⟩; refine ⟨_, rfl, ?_⟩; have n0_ := Aside0.mk (KeepBut.blk hk (g' := gb134) (o := .cells #[.int .i64 0, .int .i64 0, .int .i64 0, .int .i64 0, .bool false] 27 (0, 0)) (by (with_reducible repeat (first | refine blk_drewN ?_ _ | refine blk_drew ?_ | refine blk_alloc ?_ _)); refine blk_far ?_ NB134_150.out _; (with_reducible repeat (first | refine blk_drewN ?_ _ | refine blk_drew ?_ | refine blk_alloc ?_ _)); refine blk_far ?_ NB134_150.out _; (with_reducible repeat (first | refine blk_drewN ?_ _ | refine blk_drew ?_ | refine blk_alloc ?_ _)); refine blk_far ?_ NB134_150.out _; (with_reducible repeat (first | refine blk_drewN ?_ _ | refine blk_drew ?_ | refine blk_alloc ?_ _)); refine blk_far ?_ NB134_150.out _; (with_reducible repeat (first | refine blk_drewN ?_ _ | refine blk_drew ?_ | refine blk_alloc ?_ _)); refine blk_far ?_ NB134_150.out _; (with_reducible repeat (first | refine blk_drewN ?_ _ | refine blk_drew ?_ | refine blk_alloc ?_ _)); exact BK134.out) NB134_0.out (by simp)); have n1_ := Aside0.mk (KeepBut.blk hk (g' := gb150) (o := .cells #[.int .i64 (wrap64 ((wrap64 (t138 - (ji8))) - 1)), .int .i64 t135, .int .i64 t141, .int .i64 (wrap64 (2 + t144)), .bool t147] 27 (0, 0)) (by (with_reducible repeat (first | refine blk_drewN ?_ _ | refine blk_drew ?_ | refine blk_alloc ?_ _)); refine blk_put (cs := #[.int .i64 (wrap64 ((wrap64 (t138 - (ji8))) - 1)), .int .i64 t135, .int .i64 t141, .int .i64 (wrap64 (2 + t144)), .bool false]) ?_ 4 _ rfl; (with_reducible repeat (first | refine blk_drewN ?_ _ | refine blk_drew ?_ | refine blk_alloc ?_ _)); refine blk_put (cs := #[.int .i64 (wrap64 ((wrap64 (t138 - (ji8))) - 1)), .int .i64 t135, .int .i64 t141, .int .i64 0, .bool false]) ?_ 3 _ rfl; (with_reducible repeat (first | refine blk_drewN ?_ _ | refine blk_drew ?_ | refine blk_alloc ?_ _)); refine blk_put (cs := #[.int .i64 (wrap64 ((wrap64 (t138 - (ji8))) - 1)), .int .i64 t135, .int .i64 0, .int .i64 0, .bool false]) ?_ 2 _ rfl; (with_reducible repeat (first | refine blk_drewN ?_ _ | refine blk_drew ?_ | refine blk_alloc ?_ _)); refine blk_put (cs := #[.int .i64 (wrap64 ((wrap64 (t138 - (ji8))) - 1)), .int .i64 0, .int .i64 0, .int .i64 0, .bool false]) ?_ 1 _ rfl; (with_reducible repeat (first | refine blk_drewN ?_ _ | refine blk_drew ?_ | refine blk_alloc ?_ _)); refine blk_put (cs := #[.int .i64 0, .int .i64 0, .int .i64 0, .int .i64 0, .bool false]) ?_ 0 _ rfl; (with_reducible repeat (first | refine blk_drewN ?_ _ | refine blk_drew ?_ | refine blk_alloc ?_ _)); exact BK150.out) NB150_0.out (by simp)); have n2_ := Aside0.mk (KeepBut.trans (kk2 HK.out GW134.out GW150.out) hk (.inl rfl)); have n3_ := Aside0.mk (hb); have n4_ := Aside0.mk (hi); clear BK134; clear BK150; clear HK; clear HB; clear HI0; have BK134 := n0_; have BK150 := n1_; have HK := n2_; have HB := n3_; have HI0 := n4_; clear n0_ n1_ n2_ n3_ n4_; (try clear hb); (try clear hb2); (try clear hk); (try clear hi); have hnb129 := NB150_134.out; have hnc129 := NB134_150.out; have hnb130 := NB150_0.out; have hnc130 := NB0_150.out; have hcz131_0 : w128.cell? ⟨gb150, 0, none⟩ = some (.int .i64 (wrap64 ((wrap64 (t138 - (ji8))) - 1))) := (blk_cell BK150.out 0).trans rfl; have hcz131_1 : w128.cell? ⟨gb150, 1, none⟩ = some (.int .i64 t135) := (blk_cell BK150.out 1).trans rfl; have hcz131_2 : w128.cell? ⟨gb150, 2, none⟩ = some (.int .i64 t141) := (blk_cell BK150.out 2).trans rfl; have hcz131_3 : w128.cell? ⟨gb150, 3, none⟩ = some (.int .i64 (wrap64 (2 + t144))) := (blk_cell BK150.out 3).trans rfl; have hcz131_4 : w128.cell? ⟨gb150, 4, none⟩ = some (.bool t147) := (blk_cell BK150.out 4).trans rfl; have hfz131_0 := blk_frozen BK150.out 0; have hfz131_1 := blk_frozen BK150.out 1; have hfz131_2 := blk_frozen BK150.out 2; have hfz131_3 := blk_frozen BK150.out 3; have hfz131_4 := blk_frozen BK150.out 4; have hnb132 := NB134_0.out; have hnc132 := NB0_134.out; obtain ⟨hcz133_0, hcz133_1, hcz133_2, hcz133_3, hcz133_4, hfz133_0, hfz133_1, hfz133_2, hfz133_3, hfz133_4⟩ := cz5 BK134.out))
      refine bodyPost_ret (results_cell_row rfl _ _ gb134 27 #[.int .i64 (wrap64 ((wrap64 (t138 - (ji8))) - 1)), .int .i64 t135, .int .i64 t141, .int .i64 (wrap64 (2 + t144)), .bool t147] (0, 0) _ rfl (by (with_reducible repeat (first | refine blk_drewN ?_ _ | refine blk_drew ?_ | refine blk_alloc ?_ _)); refine blk_put (cs := #[.int .i64 (wrap64 ((wrap64 (t138 - (ji8))) - 1)), .int .i64 t135, .int .i64 t141, .int .i64 (wrap64 (2 + t144)), .bool false]) ?_ 4 _ rfl; (with_reducible repeat (first | refine blk_drewN ?_ _ | refine blk_drew ?_ | refine blk_alloc ?_ _)); refine blk_put (cs := #[.int .i64 (wrap64 ((wrap64 (t138 - (ji8))) - 1)), .int .i64 t135, .int .i64 t141, .int .i64 0, .bool false]) ?_ 3 _ rfl; (with_reducible repeat (first | refine blk_drewN ?_ _ | refine blk_drew ?_ | refine blk_alloc ?_ _)); refine blk_put (cs := #[.int .i64 (wrap64 ((wrap64 (t138 - (ji8))) - 1)), .int .i64 t135, .int .i64 0, .int .i64 0, .bool false]) ?_ 2 _ rfl; (with_reducible repeat (first | refine blk_drewN ?_ _ | refine blk_drew ?_ | refine blk_alloc ?_ _)); refine blk_put (cs := #[.int .i64 (wrap64 ((wrap64 (t138 - (ji8))) - 1)), .int .i64 0, .int .i64 0, .int .i64 0, .bool false]) ?_ 1 _ rfl; (with_reducible repeat (first | refine blk_drewN ?_ _ | refine blk_drew ?_ | refine blk_alloc ?_ _)); refine blk_put (cs := #[.int .i64 0, .int .i64 0, .int .i64 0, .int .i64 0, .bool false]) ?_ 0 _ rfl; (with_reducible repeat (first | refine blk_drewN ?_ _ | refine blk_drew ?_ | refine blk_alloc ?_ _)); exact BK134.out) Try.underlying27 rfl (by kernel_rfl)) rfl ?_
      exact ⟨by first | rfl | (simp [errW_none, errW_some] <;> rfl) | (simp only [← hji5, ← hji8]; first | rfl | (simp [errW_none, errW_some] <;> rfl)) | (simp [*, errW_none, errW_some] <;> rfl), by repeat (first | (with_reducible first | exact HI0.out | apply IsS90.alloc | apply IsS90.drewN | apply IsS90.drew | apply IsS90.set_1 | apply IsS90.set_2 | refine IsS90.far ?_ NB0_134.out _ | refine IsS90.far ?_ NB0_150.out _) | exact HI0.out), bl3 HB.out (IsS90.ge HI0.out) GE134.out GE150.out, kk2 HK.out GW134.out GW150.out⟩
 ·rw [if_neg c4] at H
  exact absurd H (by simp)

end Go.Proofs.Ytcekmdepalbnhaa.PFnFirstRuns
