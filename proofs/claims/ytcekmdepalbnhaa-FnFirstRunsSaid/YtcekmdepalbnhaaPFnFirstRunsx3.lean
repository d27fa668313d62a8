-- printed by a program of this claim's own
import Derived.Test.YtcekmdepalbnhaaPFnFirstRunsx0
import Derived.Test.YtcekmdepalbnhaaPFnFirstRunsx1
import Derived.Test.YtcekmdepalbnhaaPFnFirstRunsx2
namespace Go.Proofs.Ytcekmdepalbnhaa.PFnFirstRuns
open Go.RowKit Go.Proofs.YtcekmdepalbnhaaW.PrintWords Go.Proofs.YtcekmdepalbnhaaW.PrintLast Go.Proofs.YtcekmdepalbnhaaW.PrintMore Go.Proofs.Ytcekmdepalbnhaa.Cuts
attribute [local go_sem] max2_int min2_int max_two min_two max_three min_three max_four min_four   -- for this text's walks alone
set_option linter.unusedVariables false
set_option linter.unusedSimpArgs false

/-! ### spec_wdLow: function 122 -/
def spec_wdLow.f (a0_0 : Int) (a0_1 : Bool) : Option (Int) := if 0 ≤ (wrap64 (a0_0 - 1)) then (some (wrap64 (-(shl .i64 1 (wrap64 (a0_0 - 1)))))) else (none)
set_option maxHeartbeats 80000000 in
set_option maxRecDepth 100000 in
theorem spec_wdLow.calls (a0_0 : Int) (a0_1 : Bool) (r : Int) (w : World) (h : spec_wdLow.f a0_0 a0_1 = some r) :
  Calls Try.prog 122 #[.agg #[.int .i64 a0_0, .bool a0_1]] w fun e w' => e = .returned (.int .i64 r) ∧ Below w.heap.size w w' := by
 have hu25 := Try.underlying25
 have HB := Aside0.mk (Below.refl w.heap.size w)
 have H : (if 0 ≤ (wrap64 (a0_0 - 1)) then (some (wrap64 (-(shl .i64 1 (wrap64 (a0_0 - 1)))))) else (none)) = some r := h
 clear h
 obtain ⟨ji2, hji2⟩ : ∃ j_ : Int, (wrap64 (a0_0 - 1)) = j_ := ⟨_, rfl⟩
 replace H : (if 0 ≤ (ji2) then (some (wrap64 (-(shl .i64 1 (ji2))))) else (none)) = some r := by first | (rw [hji2] at H; exact H) | (simp only [hji2] at H ⊢; exact H)
 have hji2w : (IntKind.i64.wrap (a0_0 - 1)) = ji2 := (i64_w _).trans hji2
 by_cases c3 : 0 ≤ (ji2)
 ·rw [if_pos c3] at H
  have c3b0 := eq_true c3
  have c3b1 : decide (0 ≤ (ji2)) = true := decide_eq_true c3
  clear c3
  obtain ⟨ji4, hji4⟩ : ∃ j_ : Int, (shl .i64 1 (ji2)) = j_ := ⟨_, rfl⟩
  replace H : (some (wrap64 (-(ji4)))) = some r := by first | (rw [hji4] at H; exact H) | (simp only [hji4] at H ⊢; exact H)
  have hji4_ : (IntKind.i64.wrap (1 * 2 ^ min (ji2).toNat 64)) = ji4 := hji4
  have hji4z : (ji2) ≤ 64 → (IntKind.i64.wrap (1 * 2 ^ (ji2).toNat)) = ji4 := shl_small hji4
  have hji4u : (IntKind.i64.wrap (2 ^ min (ji2).toNat 64)) = ji4 := by have h_ := hji4_; rw [Int.one_mul] at h_; exact h_
  have hji4v : (ji2) ≤ 64 → (IntKind.i64.wrap (2 ^ (ji2).toNat)) = ji4 := fun hle_ => by have h_ := hji4z hle_; rw [Int.one_mul] at h_; exact h_
  have hji4y : (wrap64 (1 * 2 ^ min (ji2).toNat 64)) = ji4 := (i64_w _).symm.trans hji4_
  have hji4x : (ji2) ≤ 64 → (wrap64 (1 * 2 ^ (ji2).toNat)) = ji4 := fun h_ => (i64_w _).symm.trans (hji4z h_)
  obtain rfl := Option.some.inj H
  go_enter Try.func122, Try.ntmps122
  go_wp2_with (first | ((with_reducible refine gate_dst (N := 1) rfl ?_); refine boxS_ 1 (#[.int .i64 a0_0, .bool a0_1]) 25 ?_; intro gb176 hg w5 hbox hb; have n0_ := Aside0.mk (below_step (bl0 HB.out) hb); have n1_ := Aside0.mk (hbox); have n2_ := Aside0.mk ((by rw [hg]; exact (below_size (bl0 HB.out)) : w.heap.size ≤ gb176)); have n3_ := Aside0.mk ((by rw [hg]; exact (below_size (bl0 HB.out)) : w.heap.size ≤ gb176)); clear HB; have HB := n0_; have BK176 := n1_; have GW176 := n2_; have GE176 := n3_; clear n0_ n1_ n2_ n3_; clear hb hbox hg; obtain ⟨hcz6_0, hcz6_1, hfz6_0, hfz6_1⟩ := cz2 BK176.out))
  go_ret
  exact ⟨by first | rfl | (simp [errW_none, errW_some] <;> rfl) | (simp only [← hji2, ← hji4]; first | rfl | (simp [errW_none, errW_some] <;> rfl)) | (simp [*, errW_none, errW_some] <;> rfl), bl1 HB.out GE176.out⟩
 ·rw [if_neg c3] at H
  exact absurd H (by simp)

/-! ### spec_l1In: function 112 -/
def spec_l1In.f (a0 : Int) (a1 : Int) (a2 : Int) : Option (Bool) := if a0 ≥ a1 then (some (decide (a0 ≤ a2))) else (some false)
set_option maxHeartbeats 80000000 in
set_option maxRecDepth 100000 in
theorem spec_l1In.calls (a0 : Int) (a1 : Int) (a2 : Int) (r : Bool) (w : World) (h : spec_l1In.f a0 a1 a2 = some r) :
  Calls Try.prog 112 #[.int .i64 a0, .int .i64 a1, .int .i64 a2] w fun e w' => e = .returned (.bool r) ∧ Drawn0 w w' := by
 have H : (if a0 ≥ a1 then (some (decide (a0 ≤ a2))) else (some false)) = some r := h
 clear h
 by_cases c4 : a0 ≥ a1
 ·rw [if_pos c4] at H
  have c4b0 : decide (a1 ≤ a0) = true := decide_eq_true c4
  clear c4
  obtain rfl := Option.some.inj H
  go_enter Try.func112, Try.ntmps112
  go_wp2
  go_ret
  exact ⟨by first | rfl | (simp; done) | (simp [*]; done), by repeat (first | exact Drawn0.refl _ | apply Drawn0.step)⟩
 ·rw [if_neg c4] at H
  have c4b0 : decide (a1 ≤ a0) = false := decide_eq_false c4
  clear c4
  obtain rfl := Option.some.inj H
  go_enter Try.func112, Try.ntmps112
  go_wp2
  go_ret
  exact ⟨by first | rfl | (simp; done) | (simp [*]; done), by repeat (first | exact Drawn0.refl _ | apply Drawn0.step)⟩

/-! ### spec_wdGood: function 160 -/
def spec_wdGood.f (a0_0 : Int) (a0_1 : Bool) : Option (Bool) := (spec_l1In.f a0_0 2 16).bind fun t178 => (some t178)
set_option maxHeartbeats 80000000 in
set_option maxRecDepth 100000 in
theorem spec_wdGood.calls (a0_0 : Int) (a0_1 : Bool) (r : Bool) (w : World) (h : spec_wdGood.f a0_0 a0_1 = some r) :
  Calls Try.prog 160 #[.agg #[.int .i64 a0_0, .bool a0_1]] w fun e w' => e = .returned (.bool r) ∧ Below w.heap.size w w' := by
 have hu25 := Try.underlying25
 have HB := Aside0.mk (Below.refl w.heap.size w)
 have H : ((spec_l1In.f a0_0 2 16).bind fun t178 => (some t178)) = some r := h
 clear h
 replace H := Option.bind_eq_some_iff.mp H
 obtain ⟨t178, A20, H⟩ := H
 (try dsimp only at H)
 have A2 := Aside0.mk A20
 clear A20
 obtain rfl := Option.some.inj H
 go_enter Try.func160, Try.ntmps160
 go_wp2_with (first | ((with_reducible refine gate_dst (N := 1) rfl ?_); refine boxS_ 1 (#[.int .i64 a0_0, .bool a0_1]) 25 ?_; intro gb177 hg w3 hbox hb; have n0_ := Aside0.mk (below_step (bl0 HB.out) hb); have n1_ := Aside0.mk (hbox); have n2_ := Aside0.mk ((by rw [hg]; exact (below_size (bl0 HB.out)) : w.heap.size ≤ gb177)); have n3_ := Aside0.mk ((by rw [hg]; exact (below_size (bl0 HB.out)) : w.heap.size ≤ gb177)); clear HB; have HB := n0_; have BK177 := n1_; have GW177 := n2_; have GE177 := n3_; clear n0_ n1_ n2_ n3_; clear hb hbox hg; obtain ⟨hcz4_0, hcz4_1, hfz4_0, hfz4_1⟩ := cz2 BK177.out) | ((with_reducible refine gate_callee (f := 112) rfl ?_); refine goesLS_ (some 5) Try.func112 #[.int .i64 a0_0, .int .i64 2, .int .i64 16] ?_; (with_reducible refine (spec_l1In.calls a0_0 2 16 t178 _ A2.out).mono ?_); rintro e w' ⟨rfl, ⟨nd, rfl⟩⟩; refine ⟨_, rfl, ?_⟩))
 go_ret
 exact ⟨by first | rfl | (simp [errW_none, errW_some] <;> rfl) | (simp [*, errW_none, errW_some] <;> rfl), bl1 HB.out GE177.out⟩

/-! ### spec_l1Cur_number: function 161 -/
def spec_l1Cur_number.f (s0_0 : List Int) (s0_1 : Int) (s0_2 : Int) : Option (Int × Int × Int) := (spec_l1Cur_pick.f s0_0 s0_1 s0_2 14).bind fun bt179 => (if bt179.1 = 0 then ((spec_l1Cur_among.f s0_0 bt179.2.1 bt179.2.2 (([1000000000000, (-1000000000000), 1000000000001, (-4611686018427387904), 549755813888] : List Int))).bind fun bt185 => (some (bt185.1, bt185.2.1, bt185.2.2))) else (if bt179.1 = 1 then ((spec_l1Cur_pick.f s0_0 bt179.2.1 bt179.2.2 256).bind fun bt188 => ((spec_l1Cur_pick.f s0_0 bt188.2.1 bt188.2.2 256).bind fun bt191 => (some (wrap64 ((wrap64 ((wrap64 ((wrap64 (bt188.1 * 256)) + bt191.1)) * 256)) - 5000000), bt191.2.1, bt191.2.2)))) else ((spec_l1Cur_pick.f s0_0 bt179.2.1 bt179.2.2 200).bind fun bt194 => (some (wrap64 (bt194.1 - 100), bt194.2.1, bt194.2.2)))))
set_option maxHeartbeats 80000000 in
set_option maxRecDepth 100000 in
theorem spec_l1Cur_number.calls (g : Nat) (s0_0 : List Int) (s0_1 : Int) (s0_2 : Int) (r1 : Int) (r2 : Int) (r3 : Int) (w0 w : World) (hI : IsS90 w0 w g s0_0 s0_1 s0_2) (hB : Below w0.heap.size w0 w) (h : spec_l1Cur_number.f s0_0 s0_1 s0_2 = some (r1, r2, r3)) :
  Calls Try.prog 161 #[.pointer (some ⟨g, 0, none⟩)] w fun e w' => e = .returned (.int .i64 r1) ∧ IsS90 w0 w' g s0_0 r2 r3 ∧ Below w0.heap.size w0 w' ∧ KeepBut w w' g none := by
 have HI0 := Aside0.mk hI
 have HK := Aside0.mk (KeepBut.refl w g none)
 have HL := Aside0.mk hB.size
 clear hI
 have HW0 := Aside0.mk hB.size
 have HB := Aside0.mk hB
 clear hB
 have H : ((spec_l1Cur_pick.f s0_0 s0_1 s0_2 14).bind fun bt179 => (if bt179.1 = 0 then ((spec_l1Cur_among.f s0_0 bt179.2.1 bt179.2.2 (([1000000000000, (-1000000000000), 1000000000001, (-4611686018427387904), 549755813888] : List Int))).bind fun bt185 => (some (bt185.1, bt185.2.1, bt185.2.2))) else (if bt179.1 = 1 then ((spec_l1Cur_pick.f s0_0 bt179.2.1 bt179.2.2 256).bind fun bt188 => ((spec_l1Cur_pick.f s0_0 bt188.2.1 bt188.2.2 256).bind fun bt191 => (some (wrap64 ((wrap64 ((wrap64 ((wrap64 (bt188.1 * 256)) + bt191.1)) * 256)) - 5000000), bt191.2.1, bt191.2.2)))) else ((spec_l1Cur_pick.f s0_0 bt179.2.1 bt179.2.2 200).bind fun bt194 => (some (wrap64 (bt194.1 - 100), bt194.2.1, bt194.2.2)))))) = some (r1, r2, r3) := h
 clear h
 replace H := Option.bind_eq_some_iff.mp H
 obtain ⟨⟨t179, t180, t181⟩, A20, H⟩ := H
 (try dsimp only at H)
 have A2 := Aside0.mk A20
 clear A20
 by_cases c3 : t179 = 0
 ·rw [if_pos c3] at H
  have c3b0 : (t179 == 0) = true := beq_iff_eq.mpr c3
  have c3b1 : (t179 != 0) = false := bne_eq_false_iff_eq.mpr c3
  clear c3
  obtain ⟨y182, hy182⟩ : ∃ y_ : List Int, y_ = (([1000000000000, (-1000000000000), 1000000000001, (-4611686018427387904), 549755813888] : List Int)) := ⟨_, rfl⟩
  replace H : ((spec_l1Cur_among.f s0_0 t180 t181 y182).bind fun bt185 => (some (bt185.1, bt185.2.1, bt185.2.2))) = some (r1, r2, r3) := by first | (rw [hy182]; with_reducible exact H) | (have H2_ := (Option.bind_some _ _).symm.trans H; rw [hy182]; with_reducible exact H2_) | (have H2_ := (Option.bind_some _ _).symm.trans H; with_reducible exact H2_) | with_reducible exact H | (rw [hy182]; exact H) | exact H
  have Ny182 := Aside0.mk hy182
  clear hy182
  replace H := Option.bind_eq_some_iff.mp H
  obtain ⟨⟨t185, t186, t187⟩, A40, H⟩ := H
  (try dsimp only at H)
  have A4 := Aside0.mk A40
  clear A40
  simp only [Option.some.injEq, Prod.mk.injEq] at H
  obtain ⟨rfl, rfl, rfl⟩ := H
  go_enter Try.func161, Try.ntmps161
  go_wp2_with (first | ((with_reducible refine gate_callee (f := 157) rfl ?_); refine goesLS_ (some 4) Try.func157 #[.pointer (some ⟨g, 0, none⟩), .int .i64 14] ?_; (with_reducible refine (spec_l1Cur_pick.calls g s0_0 s0_1 s0_2 14 t179 t180 t181 w0 _ ?side1 ?side2 A2.out).mono ?_); (case side1 => repeat (first | (with_reducible first | exact HI0.out | apply IsS90.alloc | apply IsS90.drewN | apply IsS90.drew | apply IsS90.set_1 | apply IsS90.set_2) | exact HI0.out)); (case side2 => repeat (first | (with_reducible first | exact HB.out | apply below_alloc | apply pw_below_drewN | apply below_drew1 | refine below_set ?_ (IsS90.ge HI0.out)) | exact HB.out)); rintro e w5 ⟨rfl, hi, hb, hk⟩; refine ⟨_, rfl, ?_⟩; have n0_ := Aside0.mk (KeepBut.trans (kk0 HK.out) hk (.inl rfl)); have n1_ := Aside0.mk (hb); have n2_ := Aside0.mk (hi); clear HK; clear HB; clear HI0; have HK := n0_; have HB := n1_; have HI0 := n2_; clear n0_ n1_ n2_; (try clear hb); (try clear hb2); (try clear hk); (try clear hi)) | ((with_reducible refine gate_dst (N := 8) rfl ?_); refine Kd.R_lit (Kd.int .i64) _ 3 ?hg (N := 8) ?hd (xs := ([1000000000000, (-1000000000000), 1000000000001, (-4611686018427387904), 549755813888] : List Int)) (inner := [.int .i64 1000000000000, .int .i64 (-1000000000000), .int .i64 1000000000001, .int .i64 (-4611686018427387904), .int .i64 549755813888]) (ok := fun _ => True) (okp := fun _ => True) ?hr ?hp (fun _ hk => hk) trivial (Below.refl _ _) (Nat.le_refl _) (by simp) ?_; (case hd => rfl); (case hg => rfl); (case hr => first | (go_simp; done) | (go_simp; rfl)); (case hp => exact (Reps.one (show Kd.M (Kd.int .i64) _ _ _ 1000000000000 [.int .i64 1000000000000] from rfl) (Reps.one (show Kd.M (Kd.int .i64) _ _ _ (-1000000000000) [.int .i64 (-1000000000000)] from rfl) (Reps.one (show Kd.M (Kd.int .i64) _ _ _ 1000000000001 [.int .i64 1000000000001] from rfl) (Reps.one (show Kd.M (Kd.int .i64) _ _ _ (-4611686018427387904) [.int .i64 (-4611686018427387904)] from rfl) (Reps.one (show Kd.M (Kd.int .i64) _ _ _ 549755813888 [.int .i64 549755813888] from rfl) (Reps.none _ _))))))); intro v183 w6 ho7 hb hg_ hnew_; clear hg_ hnew_; (first | rw [← Ny182.out] at ho7 | (simp only [Int.reduceToNat] at ho7; rw [← Ny182.out] at ho7)); have n0_ := Aside0.mk (Kd.R_lower ho7 (keep_size (w := w) (g := g) (row := none) (kk0 HK.out))); have n1_ := Aside0.mk (IsS90.below (by repeat (first | (with_reducible first | exact HI0.out | apply IsS90.alloc | apply IsS90.drewN | apply IsS90.drew | apply IsS90.set_1 | apply IsS90.set_2) | exact HI0.out)) hb); have n2_ := Aside0.mk (KeepBut.trans (kk0 HK.out) (KeepBut.of_below hb g none) (.inl rfl)); have n3_ := Aside0.mk (below_step (bl1 HB.out (IsS90.ge HI0.out)) hb); clear HI0; clear HK; clear HB; have HO184 := n0_; have HI0 := n1_; have HK := n2_; have HB := n3_; clear n0_ n1_ n2_ n3_; clear hb ho7; obtain ⟨Ao8, co8, eo8⟩ := Kd.R_slice HO184.out; subst eo8) | ((with_reducible refine gate_callee (f := 110) rfl ?_); refine goesLS_ (some 9) Try.func110 #[.pointer (some ⟨g, 0, none⟩), .slice Ao8 y182.length co8] ?_; (with_reducible refine (spec_l1Cur_among.calls g s0_0 t180 t181 _ _ y182 t185 t186 t187 w0 _ ?side1 ?side2 ?side3 ?side4 ?side5 A4.out).mono ?_); (case side1 => repeat (first | (with_reducible first | exact HI0.out | apply IsS90.alloc | apply IsS90.drewN | apply IsS90.drew | apply IsS90.set_1 | apply IsS90.set_2) | exact HI0.out)); (case side2 => repeat (first | (with_reducible first | exact HB.out | apply below_alloc | apply pw_below_drewN | apply below_drew1 | refine below_set ?_ (IsS90.ge HI0.out)) | exact HB.out)); (case side3 => repeat (first | exact (Kd.R_reads' HO184.out).2.2 | (with_reducible refine Kd.C_alloc ?_ _) | (with_reducible refine Kd.C_drewN ?_ _) | (with_reducible refine Kd.C_drew ?_))); (case side4 => exact (Kd.R_reads' HO184.out).2.1); (case side5 => exact far_slice (IsS90.own_ne HI0.out HO184.out (by decide))); rintro e w9 ⟨rfl, hi, hb, hk⟩; refine ⟨_, rfl, ?_⟩; have n0_ := Aside0.mk (Kd.R_mono (Kd.R_keep (IsS90.apart (show IsS90 w0 _ g s0_0 t180 t181 from by repeat (first | (with_reducible first | exact HI0.out | apply IsS90.alloc | apply IsS90.drewN | apply IsS90.drew | apply IsS90.set_1 | apply IsS90.set_2) | exact HI0.out)) (kr HO184.out) (by decide)) hk (fun _ h => h.2)) (fun _ h => h.1)); have n1_ := Aside0.mk (KeepBut.trans (kk0 HK.out) hk (.inl rfl)); have n2_ := Aside0.mk (hb); have n3_ := Aside0.mk (hi); clear HO184; clear HK; clear HB; clear HI0; have HO184 := n0_; have HK := n1_; have HB := n2_; have HI0 := n3_; clear n0_ n1_ n2_ n3_; (try clear hb); (try clear hb2); (try clear hk); (try clear hi)))
  go_ret
  exact ⟨by first | rfl | (simp [errW_none, errW_some] <;> rfl) | (simp [*, errW_none, errW_some] <;> rfl), by repeat (first | (with_reducible first | exact HI0.out | apply IsS90.alloc | apply IsS90.drewN | apply IsS90.drew | apply IsS90.set_1 | apply IsS90.set_2) | exact HI0.out), bl1 HB.out (IsS90.ge HI0.out), kk0 HK.out⟩
 ·rw [if_neg c3] at H
  have c3b0 : (t179 == 0) = false := beq_eq_false_iff_ne.mpr c3
  have c3b1 : (t179 != 0) = true := bne_iff_ne.mpr c3
  by_cases c10 : t179 = 1
  ·rw [if_pos c10] at H
   have c10b0 : (t179 == 1) = true := beq_iff_eq.mpr c10
   have c10b1 : (t179 != 1) = false := bne_eq_false_iff_eq.mpr c10
   clear c10
   replace H := Option.bind_eq_some_iff.mp H
   obtain ⟨⟨t188, t189, t190⟩, A110, H⟩ := H
   (try dsimp only at H)
   have A11 := Aside0.mk A110
   clear A110
   replace H := Option.bind_eq_some_iff.mp H
   obtain ⟨⟨t191, t192, t193⟩, A120, H⟩ := H
   (try dsimp only at H)
   have A12 := Aside0.mk A120
   clear A120
   simp only [Option.some.injEq, Prod.mk.injEq] at H
   obtain ⟨rfl, rfl, rfl⟩ := H
   go_enter Try.func161, Try.ntmps161
   go_wp2_with (first | ((with_reducible refine gate_callee (f := 157) rfl ?_); refine goesLS_ (some 4) Try.func157 #[.pointer (some ⟨g, 0, none⟩), .int .i64 14] ?_; (with_reducible refine (spec_l1Cur_pick.calls g s0_0 s0_1 s0_2 14 t179 t180 t181 w0 _ ?side1 ?side2 A2.out).mono ?_); (case side1 => repeat (first | (with_reducible first | exact HI0.out | apply IsS90.alloc | apply IsS90.drewN | apply IsS90.drew | apply IsS90.set_1 | apply IsS90.set_2) | exact HI0.out)); (case side2 => repeat (first | (with_reducible first | exact HB.out | apply below_alloc | apply pw_below_drewN | apply below_drew1 | refine below_set ?_ (IsS90.ge HI0.out)) | exact HB.out)); rintro e w13 ⟨rfl, hi, hb, hk⟩; refine ⟨_, rfl, ?_⟩; have n0_ := Aside0.mk (KeepBut.trans (kk0 HK.out) hk (.inl rfl)); have n1_ := Aside0.mk (hb); have n2_ := Aside0.mk (hi); clear HK; clear HB; clear HI0; have HK := n0_; have HB := n1_; have HI0 := n2_; clear n0_ n1_ n2_; (try clear hb); (try clear hb2); (try clear hk); (try clear hi)) | ((with_reducible refine gate_callee (f := 157) rfl ?_); refine goesLS_ (some 13) Try.func157 #[.pointer (some ⟨g, 0, none⟩), .int .i64 256] ?_; (with_reducible refine (spec_l1Cur_pick.calls g s0_0 t180 t181 256 t188 t189 t190 w0 _ ?side1 ?side2 A11.out).mono ?_); (case side1 => repeat (first | (with_reducible first | exact HI0.out | apply IsS90.alloc | apply IsS90.drewN | apply IsS90.drew | apply IsS90.set_1 | apply IsS90.set_2) | exact HI0.out)); (case side2 => repeat (first | (with_reducible first | exact HB.out | apply below_alloc | apply pw_below_drewN | apply below_drew1 | refine below_set ?_ (IsS90.ge HI0.out)) | exact HB.out)); rintro e w14 ⟨rfl, hi, hb, hk⟩; refine ⟨_, rfl, ?_⟩; have n0_ := Aside0.mk (KeepBut.trans (kk0 HK.out) hk (.inl rfl)); have n1_ := Aside0.mk (hb); have n2_ := Aside0.mk (hi); clear HK; clear HB; clear HI0; have HK := n0_; have HB := n1_; have HI0 := n2_; clear n0_ n1_ n2_; (try clear hb); (try clear hb2); (try clear hk); (try clear hi)) | ((with_reducible refine gate_callee (f := 157) rfl ?_); refine goesLS_ (some 16) Try.func157 #[.pointer (some ⟨g, 0, none⟩), .int .i64 256] ?_; (with_reducible refine (spec_l1Cur_pick.calls g s0_0 t189 t190 256 t191 t192 t193 w0 _ ?side1 ?side2 A12.out).mono ?_); (case side1 => repeat (first | (with_reducible first | exact HI0.out | apply IsS90.alloc | apply IsS90.drewN | apply IsS90.drew | apply IsS90.set_1 | apply IsS90.set_2) | exact HI0.out)); (case side2 => repeat (first | (with_reducible first | exact HB.out | apply below_alloc | apply pw_below_drewN | apply below_drew1 | refine below_set ?_ (IsS90.ge HI0.out)) | exact HB.out)); rintro e w15 ⟨rfl, hi, hb, hk⟩; refine ⟨_, rfl, ?_⟩; have n0_ := Aside0.mk (KeepBut.trans (kk0 HK.out) hk (.inl rfl)); have n1_ := Aside0.mk (hb); have n2_ := Aside0.mk (hi); clear HK; clear HB; clear HI0; have HK := n0_; have HB := n1_; have HI0 := n2_; clear n0_ n1_ n2_; (try clear hb); (try clear hb2); (try clear hk); (try clear hi)))
   go_ret
   exact ⟨by first | rfl | (simp [errW_none, errW_some] <;> rfl) | (simp [*, errW_none, errW_some] <;> rfl), by repeat (first | (with_reducible first | exact HI0.out | apply IsS90.alloc | apply IsS90.drewN | apply IsS90.drew | apply IsS90.set_1 | apply IsS90.set_2) | exact HI0.out), bl1 HB.out (IsS90.ge HI0.out), kk0 HK.out⟩
  ·rw [if_neg c10] at H
   have c10b0 : (t179 == 1) = false := beq_eq_false_iff_ne.mpr c10
   have c10b1 : (t179 != 1) = true := bne_iff_ne.mpr c10
   replace H := Option.bind_eq_some_iff.mp H
   obtain ⟨⟨t194, t195, t196⟩, A160, H⟩ := H
   (try dsimp only at H)
   have A16 := Aside0.mk A160
   clear A160
   simp only [Option.some.injEq, Prod.mk.injEq] at H
   obtain ⟨rfl, rfl, rfl⟩ := H
   go_enter Try.func161, Try.ntmps161
   go_wp2_with (first | ((with_reducible refine gate_callee (f := 157) rfl ?_); refine goesLS_ (some 4) Try.func157 #[.pointer (some ⟨g, 0, none⟩), .int .i64 14] ?_; (with_reducible refine (spec_l1Cur_pick.calls g s0_0 s0_1 s0_2 14 t179 t180 t181 w0 _ ?side1 ?side2 A2.out).mono ?_); (case side1 => repeat (first | (with_reducible first | exact HI0.out | apply IsS90.alloc | apply IsS90.drewN | apply IsS90.drew | apply IsS90.set_1 | apply IsS90.set_2) | exact HI0.out)); (case side2 => repeat (first | (with_reducible first | exact HB.out | apply below_alloc | apply pw_below_drewN | apply below_drew1 | refine below_set ?_ (IsS90.ge HI0.out)) | exact HB.out)); rintro e w17 ⟨rfl, hi, hb, hk⟩; refine ⟨_, rfl, ?_⟩; have n0_ := Aside0.mk (KeepBut.trans (kk0 HK.out) hk (.inl rfl)); have n1_ := Aside0.mk (hb); have n2_ := Aside0.mk (hi); clear HK; clear HB; clear HI0; have HK := n0_; have HB := n1_; have HI0 := n2_; clear n0_ n1_ n2_; (try clear hb); (try clear hb2); (try clear hk); (try clear hi)) | ((with_reducible refine gate_callee (f := 157) rfl ?_); refine goesLS_ (some 21) Try.func157 #[.pointer (some ⟨g, 0, none⟩), .int .i64 200] ?_; (with_reducible refine (spec_l1Cur_pick.calls g s0_0 t180 t181 200 t194 t195 t196 w0 _ ?side1 ?side2 A16.out).mono ?_); (case side1 => repeat (first | (with_reducible first | exact HI0.out | apply IsS90.alloc | apply IsS90.drewN | apply IsS90.drew | apply IsS90.set_1 | apply IsS90.set_2) | exact HI0.out)); (case side2 => repeat (first | (with_reducible first | exact HB.out | apply below_alloc | apply pw_below_drewN | apply below_drew1 | refine below_set ?_ (IsS90.ge HI0.out)) | exact HB.out)); rintro e w18 ⟨rfl, hi, hb, hk⟩; refine ⟨_, rfl, ?_⟩; have n0_ := Aside0.mk (KeepBut.trans (kk0 HK.out) hk (.inl rfl)); have n1_ := Aside0.mk (hb); have n2_ := Aside0.mk (hi); clear HK; clear HB; clear HI0; have HK := n0_; have HB := n1_; have HI0 := n2_; clear n0_ n1_ n2_; (try clear hb); (try clear hb2); (try clear hk); (try clear hi)))
   go_ret
   exact ⟨by first | rfl | (simp [errW_none, errW_some] <;> rfl) | (simp [*, errW_none, errW_some] <;> rfl), by repeat (first | (with_reducible first | exact HI0.out | apply IsS90.alloc | apply IsS90.drewN | apply IsS90.drew | apply IsS90.set_1 | apply IsS90.set_2) | exact HI0.out), bl1 HB.out (IsS90.ge HI0.out), kk0 HK.out⟩

/-! ### spec_wdHigh: function 162 -/
def spec_wdHigh.f (a0_0 : Int) (a0_1 : Bool) : Option (Int) := if 0 ≤ (wrap64 (a0_0 - 1)) then (some (wrap64 ((shl .i64 1 (wrap64 (a0_0 - 1))) - 1))) else (none)
set_option maxHeartbeats 80000000 in
set_option maxRecDepth 100000 in
theorem spec_wdHigh.calls (a0_0 : Int) (a0_1 : Bool) (r : Int) (w : World) (h : spec_wdHigh.f a0_0 a0_1 = some r) :
  Calls Try.prog 162 #[.agg #[.int .i64 a0_0, .bool a0_1]] w fun e w' => e = .returned (.int .i64 r) ∧ Below w.heap.size w w' := by
 have hu25 := Try.underlying25
 have HB := Aside0.mk (Below.refl w.heap.size w)
 have H : (if 0 ≤ (wrap64 (a0_0 - 1)) then (some (wrap64 ((shl .i64 1 (wrap64 (a0_0 - 1))) - 1))) else (none)) = some r := h
 clear h
 obtain ⟨ji2, hji2⟩ : ∃ j_ : Int, (wrap64 (a0_0 - 1)) = j_ := ⟨_, rfl⟩
 replace H : (if 0 ≤ (ji2) then (some (wrap64 ((shl .i64 1 (ji2)) - 1))) else (none)) = some r := by first | (rw [hji2] at H; exact H) | (simp only [hji2] at H ⊢; exact H)
 have hji2w : (IntKind.i64.wrap (a0_0 - 1)) = ji2 := (i64_w _).trans hji2
 by_cases c3 : 0 ≤ (ji2)
 ·rw [if_pos c3] at H
  have c3b0 := eq_true c3
  have c3b1 : decide (0 ≤ (ji2)) = true := decide_eq_true c3
  clear c3
  obtain ⟨ji4, hji4⟩ : ∃ j_ : Int, (shl .i64 1 (ji2)) = j_ := ⟨_, rfl⟩
  replace H : (some (wrap64 ((ji4) - 1))) = some r := by first | (rw [hji4] at H; exact H) | (simp only [hji4] at H ⊢; exact H)
  have hji4_ : (IntKind.i64.wrap (1 * 2 ^ min (ji2).toNat 64)) = ji4 := hji4
  have hji4z : (ji2) ≤ 64 → (IntKind.i64.wrap (1 * 2 ^ (ji2).toNat)) = ji4 := shl_small hji4
  have hji4u : (IntKind.i64.wrap (2 ^ min (ji2).toNat 64)) = ji4 := by have h_ := hji4_; rw [Int.one_mul] at h_; exact h_
  have hji4v : (ji2) ≤ 64 → (IntKind.i64.wrap (2 ^ (ji2).toNat)) = ji4 := fun hle_ => by have h_ := hji4z hle_; rw [Int.one_mul] at h_; exact h_
  have hji4y : (wrap64 (1 * 2 ^ min (ji2).toNat 64)) = ji4 := (i64_w _).symm.trans hji4_
  have hji4x : (ji2) ≤ 64 → (wrap64 (1 * 2 ^ (ji2).toNat)) = ji4 := fun h_ => (i64_w _).symm.trans (hji4z h_)
  obtain rfl := Option.some.inj H
  go_enter Try.func162, Try.ntmps162
  go_wp2_with (first | ((with_reducible refine gate_dst (N := 1) rfl ?_); refine boxS_ 1 (#[.int .i64 a0_0, .bool a0_1]) 25 ?_; intro gb197 hg w5 hbox hb; have n0_ := Aside0.mk (below_step (bl0 HB.out) hb); have n1_ := Aside0.mk (hbox); have n2_ := Aside0.mk ((by rw [hg]; exact (below_size (bl0 HB.out)) : w.heap.size ≤ gb197)); have n3_ := Aside0.mk ((by rw [hg]; exact (below_size (bl0 HB.out)) : w.heap.size ≤ gb197)); clear HB; have HB := n0_; have BK197 := n1_; have GW197 := n2_; have GE197 := n3_; clear n0_ n1_ n2_ n3_; clear hb hbox hg; obtain ⟨hcz6_0, hcz6_1, hfz6_0, hfz6_1⟩ := cz2 BK197.out))
  go_ret
  exact ⟨by first | rfl | (simp [errW_none, errW_some] <;> rfl) | (simp only [← hji2, ← hji4]; first | rfl | (simp [errW_none, errW_some] <;> rfl)) | (simp [*, errW_none, errW_some] <;> rfl), bl1 HB.out GE197.out⟩
 ·rw [if_neg c3] at H
  exact absurd H (by simp)

/-! ### spec_l1Cur_inWord: function 81 -/
def spec_l1Cur_inWord.j0 : Nat → Bool → List Int → Int → Int → Int → Bool → Option (Int × Int × Int)
 | 0, _, _, _, _, _, _ => none
 | k + 1, x11, x1000, x1001, x1002, x199000, x199001 => if x11 = true then ((spec_l1Cur_number.f x1000 x1001 x1002).bind fun bt203 => (some (bt203.1, bt203.2.1, bt203.2.2))) else ((spec_l1Cur_pick.f x1000 x1001 x1002 5).bind fun bt206 => (if bt206.1 = 0 then ((spec_wdLow.f x199000 x199001).bind fun t209 => (some (t209, bt206.2.1, bt206.2.2))) else (if bt206.1 = 1 then ((spec_wdHigh.f x199000 x199001).bind fun t210 => (some (t210, bt206.2.1, bt206.2.2))) else ((spec_wdLow.f x199000 x199001).bind fun t211 => ((spec_l1Cur_pick.f x1000 bt206.2.1 bt206.2.2 256).bind fun bt212 => (if 0 ≤ x199000 then (if (shl .i64 1 x199000) = 0 then (none) else (some (wrap64 (t211 + (Int.tmod (wrap64 (bt212.1 * 257)) (shl .i64 1 x199000))), bt212.2.1, bt212.2.2))) else (none)))))))
def spec_l1Cur_inWord.f (k : Nat) (s0_0 : List Int) (s0_1 : Int) (s0_2 : Int) (a1_0 : Int) (a1_1 : Bool) : Option (Int × Int × Int) := (spec_wdGood.f a1_0 a1_1).bind fun t199 => (if t199 = true then ((spec_l1Cur_one.f s0_0 s0_1 s0_2 12).bind fun bt200 => (spec_l1Cur_inWord.j0 k bt200.1 s0_0 bt200.2.1 bt200.2.2 a1_0 a1_1)) else (spec_l1Cur_inWord.j0 k true s0_0 s0_1 s0_2 a1_0 a1_1))

def spec_l1Cur_inWord.T8 : Bool × List (List Nat × List Nat) := (true, [([], []), ([0], [0]), ([], []), ([2, 1], [2]), ([3], [3]), ([], []), ([5], [5]), ([6], [6]), ([4, 7], [4, 7]), ([1, 8], [1, 8]), ([9, 3, 0, 1, 2, 3, 4, 5, 6, 7, 8, 9], [9])])
def spec_l1Cur_inWord.B8 : List Nat := [0, 1, 0, 7, 15, 0, 32, 96, 255, 511, 1023]
theorem spec_l1Cur_inWord.tab8 : rtab .any (opsOf Try.f81 8) = spec_l1Cur_inWord.T8 := by kernel_rfl
theorem spec_l1Cur_inWord.bits8 : waitsOk spec_l1Cur_inWord.T8.2 spec_l1Cur_inWord.B8 = true := by kernel_rfl
set_option maxHeartbeats 80000000 in
set_option maxRecDepth 100000 in
theorem spec_l1Cur_inWord.calls (k : Nat) (g : Nat) (s0_0 : List Int) (s0_1 : Int) (s0_2 : Int) (a1_0 : Int) (a1_1 : Bool) (r1 : Int) (r2 : Int) (r3 : Int) (w0 w : World) (hI : IsS90 w0 w g s0_0 s0_1 s0_2) (hB : Below w0.heap.size w0 w) (h : spec_l1Cur_inWord.f k s0_0 s0_1 s0_2 a1_0 a1_1 = some (r1, r2, r3)) :
  Calls Try.prog 81 #[.pointer (some ⟨g, 0, none⟩), .agg #[.int .i64 a1_0, .bool a1_1]] w fun e w' => e = .returned (.int .i64 r1) ∧ IsS90 w0 w' g s0_0 r2 r3 ∧ Below w0.heap.size w0 w' ∧ KeepBut w w' g none := by
 have hu25 := Try.underlying25
 have HI0 := Aside0.mk hI
 have HK := Aside0.mk (KeepBut.refl w g none)
 have HL := Aside0.mk hB.size
 clear hI
 have HW0 := Aside0.mk hB.size
 have HB := Aside0.mk hB
 clear hB
 have H : ((spec_wdGood.f a1_0 a1_1).bind fun t199 => (if t199 = true then ((spec_l1Cur_one.f s0_0 s0_1 s0_2 12).bind fun bt200 => (spec_l1Cur_inWord.j0 k bt200.1 s0_0 bt200.2.1 bt200.2.2 a1_0 a1_1)) else (spec_l1Cur_inWord.j0 k true s0_0 s0_1 s0_2 a1_0 a1_1))) = some (r1, r2, r3) := h
 clear h
 have HC3 := Aside0.mk H
 clear H
 go_enter Try.func81, Try.ntmps81
 go_upto_region 1 with (first | ((with_reducible refine gate_dst (N := 3) rfl ?_); refine boxS_ 3 (#[.int .i64 a1_0, .bool a1_1]) 25 ?_; intro gb198 hg w4 hbox hb; have n0_ := Aside0.mk (IsS90.below (by repeat (first | (with_reducible first | exact HI0.out | apply IsS90.alloc | apply IsS90.drewN | apply IsS90.drew | apply IsS90.set_1 | apply IsS90.set_2) | exact HI0.out)) hb); have n1_ := Aside0.mk (KeepBut.trans (kk0 HK.out) (KeepBut.of_below hb g none) (.inl rfl)); have n2_ := Aside0.mk (below_step (bl1 HB.out (IsS90.ge HI0.out)) hb); have n3_ := Aside0.mk (hbox); have n4_ := Aside0.mk ((by rw [hg]; exact (keep_size (w := w) (g := g) (row := none) (kk0 HK.out)) : w.heap.size ≤ gb198)); have n5_ := Aside0.mk ((Nat.le_trans HW0.out (by rw [hg]; exact (keep_size (w := w) (g := g) (row := none) (kk0 HK.out)) : w.heap.size ≤ gb198) : w0.heap.size ≤ gb198)); have n6_ := Aside0.mk ((by rw [hg]; exact Nat.ne_of_lt (IsS90.lt (show IsS90 w0 _ g s0_0 s0_1 s0_2 from by repeat (first | (with_reducible first | exact HI0.out | apply IsS90.alloc | apply IsS90.drewN | apply IsS90.drew | apply IsS90.set_1 | apply IsS90.set_2) | exact HI0.out))) : g ≠ gb198)); have n7_ := Aside0.mk ((by rw [hg]; exact Nat.ne_of_gt (IsS90.lt (show IsS90 w0 _ g s0_0 s0_1 s0_2 from by repeat (first | (with_reducible first | exact HI0.out | apply IsS90.alloc | apply IsS90.drewN | apply IsS90.drew | apply IsS90.set_1 | apply IsS90.set_2) | exact HI0.out))) : gb198 ≠ g)); clear HI0; clear HK; clear HB; have HI0 := n0_; have HK := n1_; have HB := n2_; have BK198 := n3_; have GW198 := n4_; have GE198 := n5_; have NB0_198 := n6_; have NB198_0 := n7_; clear n0_ n1_ n2_ n3_ n4_ n5_ n6_ n7_; clear hb hbox hg))
 (try simp only [Act.put, List.setIfInBounds_toArray, List.set_cons_zero, List.set_cons_succ])
 go_cut [11] (fun v11 wc => ∃ (kq : Nat) (x11_2 : Bool) (x1001_2 : Int) (x1002_2 : Int), v11 = .bool x11_2 ∧ Aside0 (spec_l1Cur_inWord.j0 kq x11_2 s0_0 x1001_2 x1002_2 a1_0 a1_1 = some (r1, r2, r3)) ∧ Aside0 (kq ≤ k) ∧ Aside0 (wc.heap[gb198]? = some (.cells #[.int .i64 a1_0, .bool a1_1] 25 (0, 0))) ∧ Aside0 (IsS90 w0 wc g s0_0 x1001_2 x1002_2) ∧ Aside0 (KeepBut w wc g none) ∧ Aside0 (Below w0.heap.size w0 wc))
 case first =>
  have H := HC3.out
  clear HC3
  replace H := Option.bind_eq_some_iff.mp H
  obtain ⟨t199, A50, H⟩ := H
  (try dsimp only at H)
  have A5 := Aside0.mk A50
  clear A50
  by_cases c6 : t199 = true
  ·subst c6
   rw [if_pos rfl] at H
   replace H := Option.bind_eq_some_iff.mp H
   obtain ⟨⟨t200, t201, t202⟩, A70, H⟩ := H
   (try dsimp only at H)
   have A7 := Aside0.mk A70
   clear A70
   have H' := Aside0.mk H
   clear H
   have hnb8 := NB198_0.out
   have hnc8 := NB0_198.out
   obtain ⟨hcz9_0, hcz9_1, hfz9_0, hfz9_1⟩ := cz2 BK198.out
   go_wp2_with (first | ((with_reducible refine gate_callee (f := 160) rfl ?_); refine goesLS_ (some 6) Try.func160 #[.agg #[.int .i64 a1_0, .bool a1_1]] ?_; (with_reducible refine (spec_wdGood.calls a1_0 a1_1 true _ A5.out).mono ?_); rintro e w10 ⟨rfl, hb⟩; refine ⟨_, rfl, ?_⟩; have n0_ := Aside0.mk (IsS90.below (by repeat (first | (with_reducible first | exact HI0.out | apply IsS90.alloc | apply IsS90.drewN | apply IsS90.drew | apply IsS90.set_1 | apply IsS90.set_2 | refine IsS90.far ?_ NB0_198.out _) | exact HI0.out)) hb); have n1_ := Aside0.mk (blk_below (g := gb198) (o := .cells #[.int .i64 a1_0, .bool a1_1] 25 (0, 0)) (kb BK198.out) hb); have n2_ := Aside0.mk (KeepBut.trans (kk1 HK.out GW198.out) (KeepBut.of_below hb g none) (.inl rfl)); have n3_ := Aside0.mk (below_step (bl2 HB.out (IsS90.ge HI0.out) GE198.out) hb); clear HI0; clear BK198; clear HK; clear HB; have HI0 := n0_; have BK198 := n1_; have HK := n2_; have HB := n3_; clear n0_ n1_ n2_ n3_; (try clear hb); (try clear hb2); (try clear hk); (try clear hi)) | (go_at_call 158; (with_reducible refine (spec_l1Cur_one.calls g s0_0 s0_1 s0_2 12 t200 t201 t202 w0 _ ?side1 ?side2 A7.out).mono ?_); (case side1 => repeat (first | (with_reducible first | exact HI0.out | apply IsS90.alloc | apply IsS90.drewN | apply IsS90.drew | apply IsS90.set_1 | apply IsS90.set_2 | refine IsS90.far ?_ NB0_198.out _) | exact HI0.out)); (case side2 => repeat (first | (with_reducible first | exact HB.out | apply below_alloc | apply pw_below_drewN | apply below_drew1 | refine below_set ?_ (IsS90.ge HI0.out) | refine below_set ?_ GE198.out) | exact HB.out)); rintro e w11 ⟨rfl, hi, hb, hk⟩; have n0_ := Aside0.mk (KeepBut.blk hk (g' := gb198) (o := .cells #[.int .i64 a1_0, .bool a1_1] 25 (0, 0)) (kb BK198.out) NB198_0.out (by simp)); have n1_ := Aside0.mk (KeepBut.trans (kk1 HK.out GW198.out) hk (.inl rfl)); have n2_ := Aside0.mk (hb); have n3_ := Aside0.mk (hi); clear BK198; clear HK; clear HB; clear HI0; have BK198 := n0_; have HK := n1_; have HB := n2_; have HI0 := n3_; clear n0_ n1_ n2_ n3_; (try clear hb); (try clear hb2); (try clear hk); (try clear hi)))
   go_meet
   case rel => exact ⟨_, (t200), (t201), (t202), (by first | rfl | (simp; done) | (simp [*]; done)), H', ⟨by first | omega | exact Nat.le_refl _⟩, ⟨kb BK198.out⟩, ⟨by repeat (first | (with_reducible first | exact HI0.out | apply IsS90.alloc | apply IsS90.drewN | apply IsS90.drew | apply IsS90.set_1 | apply IsS90.set_2 | refine IsS90.far ?_ NB0_198.out _) | exact HI0.out)⟩, ⟨kk1 HK.out GW198.out⟩, ⟨bl2 HB.out (IsS90.ge HI0.out) GE198.out⟩⟩
  ·replace c6 := Bool.eq_false_iff.mpr c6
   subst c6
   rw [if_neg (show ¬ (false = true) by decide)] at H
   have H' := Aside0.mk H
   clear H
   have hnb12 := NB198_0.out
   have hnc12 := NB0_198.out
   obtain ⟨hcz13_0, hcz13_1, hfz13_0, hfz13_1⟩ := cz2 BK198.out
   go_wp2_with (first | ((with_reducible refine gate_callee (f := 160) rfl ?_); refine goesLS_ (some 6) Try.func160 #[.agg #[.int .i64 a1_0, .bool a1_1]] ?_; (with_reducible refine (spec_wdGood.calls a1_0 a1_1 false _ A5.out).mono ?_); rintro e w14 ⟨rfl, hb⟩; refine ⟨_, rfl, ?_⟩; have n0_ := Aside0.mk (IsS90.below (by repeat (first | (with_reducible first | exact HI0.out | apply IsS90.alloc | apply IsS90.drewN | apply IsS90.drew | apply IsS90.set_1 | apply IsS90.set_2 | refine IsS90.far ?_ NB0_198.out _) | exact HI0.out)) hb); have n1_ := Aside0.mk (blk_below (g := gb198) (o := .cells #[.int .i64 a1_0, .bool a1_1] 25 (0, 0)) (kb BK198.out) hb); have n2_ := Aside0.mk (KeepBut.trans (kk1 HK.out GW198.out) (KeepBut.of_below hb g none) (.inl rfl)); have n3_ := Aside0.mk (below_step (bl2 HB.out (IsS90.ge HI0.out) GE198.out) hb); clear HI0; clear BK198; clear HK; clear HB; have HI0 := n0_; have BK198 := n1_; have HK := n2_; have HB := n3_; clear n0_ n1_ n2_ n3_; (try clear hb); (try clear hb2); (try clear hk); (try clear hi)))
   go_meet
   case rel => exact ⟨_, (true), (s0_1), (s0_2), (by first | rfl | (simp; done) | (simp [*]; done)), H', ⟨by first | omega | exact Nat.le_refl _⟩, ⟨kb BK198.out⟩, ⟨by repeat (first | (with_reducible first | exact HI0.out | apply IsS90.alloc | apply IsS90.drewN | apply IsS90.drew | apply IsS90.set_1 | apply IsS90.set_2 | refine IsS90.far ?_ NB0_198.out _) | exact HI0.out)⟩, ⟨kk1 HK.out GW198.out⟩, ⟨bl2 HB.out (IsS90.ge HI0.out) GE198.out⟩⟩
 case rest =>
  clear HC3
  try clear c1
  try clear p2
  try clear c6
  try clear c8
  try clear c12
  try clear hcz13_0
  try clear hcz13_1
  try clear hcz9_0
  try clear hcz9_1
  try clear hfz13_0
  try clear hfz13_1
  try clear hfz9_0
  try clear hfz9_1
  obtain ⟨kq, x11_2, x1001_2, x1002_2, rfl, HA, HJ2, BK198, HI0, HK, HB⟩ := hcut
  cases kq with
  | zero => exact absurd HA.out (by simp [spec_l1Cur_inWord.j0])
  | succ kj2 =>
   have H := HA.out
   clear HA
   simp only [spec_l1Cur_inWord.j0] at H
   by_cases c15 : x11_2 = true
   ·subst c15
    rw [if_pos rfl] at H
    replace H := Option.bind_eq_some_iff.mp H
    obtain ⟨⟨t203, t204, t205⟩, A160, H⟩ := H
    (try dsimp only at H)
    have A16 := Aside0.mk A160
    clear A160
    simp only [Option.some.injEq, Prod.mk.injEq] at H
    obtain ⟨rfl, rfl, rfl⟩ := H
    go_wp2_with (first | ((with_reducible refine gate_callee (f := 161) rfl ?_); refine goesLS_ (some 13) Try.func161 #[.pointer (some ⟨g, 0, none⟩)] ?_; (with_reducible refine (spec_l1Cur_number.calls g s0_0 x1001_2 x1002_2 t203 t204 t205 w0 _ ?side1 ?side2 A16.out).mono ?_); (case side1 => repeat (first | (with_reducible first | exact HI0.out | apply IsS90.alloc | apply IsS90.drewN | apply IsS90.drew | apply IsS90.set_1 | apply IsS90.set_2 | refine IsS90.far ?_ NB0_198.out _) | exact HI0.out)); (case side2 => repeat (first | (with_reducible first | exact HB.out | apply below_alloc | apply pw_below_drewN | apply below_drew1 | refine below_set ?_ (IsS90.ge HI0.out) | refine below_set ?_ GE198.out) | exact HB.out)); rintro e w17 ⟨rfl, hi, hb, hk⟩; refine ⟨_, rfl, ?_⟩; have n0_ := Aside0.mk (KeepBut.blk hk (g' := gb198) (o := .cells #[.int .i64 a1_0, .bool a1_1] 25 (0, 0)) (kb BK198.out) NB198_0.out (by simp)); have n1_ := Aside0.mk (KeepBut.trans (kk1 HK.out GW198.out) hk (.inl rfl)); have n2_ := Aside0.mk (hb); have n3_ := Aside0.mk (hi); clear BK198; clear HK; clear HB; clear HI0; have BK198 := n0_; have HK := n1_; have HB := n2_; have HI0 := n3_; clear n0_ n1_ n2_ n3_; (try clear hb); (try clear hb2); (try clear hk); (try clear hi)))
    go_ret
    exact ⟨by first | rfl | (simp [errW_none, errW_some] <;> rfl) | (simp [*, errW_none, errW_some] <;> rfl), by repeat (first | (with_reducible first | exact HI0.out | apply IsS90.alloc | apply IsS90.drewN | apply IsS90.drew | apply IsS90.set_1 | apply IsS90.set_2 | refine IsS90.far ?_ NB0_198.out _) | exact HI0.out), bl2 HB.out (IsS90.ge HI0.out) GE198.out, kk1 HK.out GW198.out⟩
   ·replace c15 := Bool.eq_false_iff.mpr c15
    subst c15
    rw [if_neg (show ¬ (false = true) by decide)] at H
    replace H := Option.bind_eq_some_iff.mp H
    obtain ⟨⟨t206, t207, t208⟩, A180, H⟩ := H
    (try dsimp only at H)
    have A18 := Aside0.mk A180
    clear A180
    by_cases c19 : t206 = 0
    ·rw [if_pos c19] at H
     have c19b0 : (t206 == 0) = true := beq_iff_eq.mpr c19
     have c19b1 : (t206 != 0) = false := bne_eq_false_iff_eq.mpr c19
     clear c19
     replace H := Option.bind_eq_some_iff.mp H
     obtain ⟨t209, A200, H⟩ := H
     (try dsimp only at H)
     have A20 := Aside0.mk A200
     clear A200
     simp only [Option.some.injEq, Prod.mk.injEq] at H
     obtain ⟨rfl, rfl, rfl⟩ := H
     go_wp2_with (first | ((with_reducible refine gate_callee (f := 157) rfl ?_); refine goesLS_ (some 15) Try.func157 #[.pointer (some ⟨g, 0, none⟩), .int .i64 5] ?_; (with_reducible refine (spec_l1Cur_pick.calls g s0_0 x1001_2 x1002_2 5 t206 t207 t208 w0 _ ?side1 ?side2 A18.out).mono ?_); (case side1 => repeat (first | (with_reducible first | exact HI0.out | apply IsS90.alloc | apply IsS90.drewN | apply IsS90.drew | apply IsS90.set_1 | apply IsS90.set_2 | refine IsS90.far ?_ NB0_198.out _) | exact HI0.out)); (case side2 => repeat (first | (with_reducible first | exact HB.out | apply below_alloc | apply pw_below_drewN | apply below_drew1 | refine below_set ?_ (IsS90.ge HI0.out) | refine below_set ?_ GE198.out) | exact HB.out)); rintro e w21 ⟨rfl, hi, hb, hk⟩; refine ⟨_, rfl, ?_⟩; have n0_ := Aside0.mk (KeepBut.blk hk (g' := gb198) (o := .cells #[.int .i64 a1_0, .bool a1_1] 25 (0, 0)) (kb BK198.out) NB198_0.out (by simp)); have n1_ := Aside0.mk (KeepBut.trans (kk1 HK.out GW198.out) hk (.inl rfl)); have n2_ := Aside0.mk (hb); have n3_ := Aside0.mk (hi); clear BK198; clear HK; clear HB; clear HI0; have BK198 := n0_; have HK := n1_; have HB := n2_; have HI0 := n3_; clear n0_ n1_ n2_ n3_; (try clear hb); (try clear hb2); (try clear hk); (try clear hi); have hnb22 := NB198_0.out; have hnc22 := NB0_198.out; obtain ⟨hcz23_0, hcz23_1, hfz23_0, hfz23_1⟩ := cz2 BK198.out) | ((with_reducible refine gate_callee (f := 122) rfl ?_); refine goesLS_ (some 19) Try.func122 #[.agg #[.int .i64 a1_0, .bool a1_1]] ?_; (with_reducible refine (spec_wdLow.calls a1_0 a1_1 t209 _ A20.out).mono ?_); rintro e w24 ⟨rfl, hb⟩; refine ⟨_, rfl, ?_⟩; have n0_ := Aside0.mk (blk_below (g := gb198) (o := .cells #[.int .i64 a1_0, .bool a1_1] 25 (0, 0)) (kb BK198.out) hb); have n1_ := Aside0.mk (IsS90.below (by repeat (first | (with_reducible first | exact HI0.out | apply IsS90.alloc | apply IsS90.drewN | apply IsS90.drew | apply IsS90.set_1 | apply IsS90.set_2 | refine IsS90.far ?_ NB0_198.out _) | exact HI0.out)) hb); have n2_ := Aside0.mk (KeepBut.trans (kk1 HK.out GW198.out) (KeepBut.of_below hb g none) (.inl rfl)); have n3_ := Aside0.mk (below_step (bl2 HB.out (IsS90.ge HI0.out) GE198.out) hb); clear BK198; clear HI0; clear HK; clear HB; have BK198 := n0_; have HI0 := n1_; have HK := n2_; have HB := n3_; clear n0_ n1_ n2_ n3_; (try clear hb); (try clear hb2); (try clear hk); (try clear hi)))
     go_ret
     exact ⟨by first | rfl | (simp [errW_none, errW_some] <;> rfl) | (simp [*, errW_none, errW_some] <;> rfl), by repeat (first | (with_reducible first | exact HI0.out | apply IsS90.alloc | apply IsS90.drewN | apply IsS90.drew | apply IsS90.set_1 | apply IsS90.set_2 | refine IsS90.far ?_ NB0_198.out _) | exact HI0.out), bl2 HB.out (IsS90.ge HI0.out) GE198.out, kk1 HK.out GW198.out⟩
    ·rw [if_neg c19] at H
     have c19b0 : (t206 == 0) = false := beq_eq_false_iff_ne.mpr c19
     have c19b1 : (t206 != 0) = true := bne_iff_ne.mpr c19
     by_cases c25 : t206 = 1
     ·rw [if_pos c25] at H
      have c25b0 : (t206 == 1) = true := beq_iff_eq.mpr c25
      have c25b1 : (t206 != 1) = false := bne_eq_false_iff_eq.mpr c25
      clear c25
      replace H := Option.bind_eq_some_iff.mp H
      obtain ⟨t210, A260, H⟩ := H
      (try dsimp only at H)
      have A26 := Aside0.mk A260
      clear A260
      simp only [Option.some.injEq, Prod.mk.injEq] at H
      obtain ⟨rfl, rfl, rfl⟩ := H
      go_wp2_with (first | ((with_reducible refine gate_callee (f := 157) rfl ?_); refine goesLS_ (some 15) Try.func157 #[.pointer (some ⟨g, 0, none⟩), .int .i64 5] ?_; (with_reducible refine (spec_l1Cur_pick.calls g s0_0 x1001_2 x1002_2 5 t206 t207 t208 w0 _ ?side1 ?side2 A18.out).mono ?_); (case side1 => repeat (first | (with_reducible first | exact HI0.out | apply IsS90.alloc | apply IsS90.drewN | apply IsS90.drew | apply IsS90.set_1 | apply IsS90.set_2 | refine IsS90.far ?_ NB0_198.out _) | exact HI0.out)); (case side2 => repeat (first | (with_reducible first | exact HB.out | apply below_alloc | apply pw_below_drewN | apply below_drew1 | refine below_set ?_ (IsS90.ge HI0.out) | refine below_set ?_ GE198.out) | exact HB.out)); rintro e w27 ⟨rfl, hi, hb, hk⟩; refine ⟨_, rfl, ?_⟩; have n0_ := Aside0.mk (KeepBut.blk hk (g' := gb198) (o := .cells #[.int .i64 a1_0, .bool a1_1] 25 (0, 0)) (kb BK198.out) NB198_0.out (by simp)); have n1_ := Aside0.mk (KeepBut.trans (kk1 HK.out GW198.out) hk (.inl rfl)); have n2_ := Aside0.mk (hb); have n3_ := Aside0.mk (hi); clear BK198; clear HK; clear HB; clear HI0; have BK198 := n0_; have HK := n1_; have HB := n2_; have HI0 := n3_; clear n0_ n1_ n2_ n3_; (try clear hb); (try clear hb2); (try clear hk); (try clear hi); have hnb28 := NB198_0.out; have hnc28 := NB0_198.out; obtain ⟨hcz29_0, hcz29_1, hfz29_0, hfz29_1⟩ := cz2 BK198.out) | ((with_reducible refine gate_callee (f := 162) rfl ?_); refine goesLS_ (some 23) Try.func162 #[.agg #[.int .i64 a1_0, .bool a1_1]] ?_; (with_reducible refine (spec_wdHigh.calls a1_0 a1_1 t210 _ A26.out).mono ?_); rintro e w30 ⟨rfl, hb⟩; refine ⟨_, rfl, ?_⟩; have n0_ := Aside0.mk (blk_below (g := gb198) (o := .cells #[.int .i64 a1_0, .bool a1_1] 25 (0, 0)) (kb BK198.out) hb); have n1_ := Aside0.mk (IsS90.below (by repeat (first | (with_reducible first | exact HI0.out | apply IsS90.alloc | apply IsS90.drewN | apply IsS90.drew | apply IsS90.set_1 | apply IsS90.set_2 | refine IsS90.far ?_ NB0_198.out _) | exact HI0.out)) hb); have n2_ := Aside0.mk (KeepBut.trans (kk1 HK.out GW198.out) (KeepBut.of_below hb g none) (.inl rfl)); have n3_ := Aside0.mk (below_step (bl2 HB.out (IsS90.ge HI0.out) GE198.out) hb); clear BK198; clear HI0; clear HK; clear HB; have BK198 := n0_; have HI0 := n1_; have HK := n2_; have HB := n3_; clear n0_ n1_ n2_ n3_; (try clear hb); (try clear hb2); (try clear hk); (try clear hi)))
      go_ret
      exact ⟨by first | rfl | (simp [errW_none, errW_some] <;> rfl) | (simp [*, errW_none, errW_some] <;> rfl), by repeat (first | (with_reducible first | exact HI0.out | apply IsS90.alloc | apply IsS90.drewN | apply IsS90.drew | apply IsS90.set_1 | apply IsS90.set_2 | refine IsS90.far ?_ NB0_198.out _) | exact HI0.out), bl2 HB.out (IsS90.ge HI0.out) GE198.out, kk1 HK.out GW198.out⟩
     ·rw [if_neg c25] at H
      have c25b0 : (t206 == 1) = false := beq_eq_false_iff_ne.mpr c25
      have c25b1 : (t206 != 1) = true := bne_iff_ne.mpr c25
      replace H := Option.bind_eq_some_iff.mp H
      obtain ⟨t211, A310, H⟩ := H
      (try dsimp only at H)
      have A31 := Aside0.mk A310
      clear A310
      replace H := Option.bind_eq_some_iff.mp H
      obtain ⟨⟨t212, t213, t214⟩, A320, H⟩ := H
      (try dsimp only at H)
      have A32 := Aside0.mk A320
      clear A320
      by_cases c33 : 0 ≤ a1_0
      ·rw [if_pos c33] at H
       have c33b0 := eq_true c33
       have c33b1 : decide (0 ≤ a1_0) = true := decide_eq_true c33
       clear c33
       obtain ⟨ji34, hji34⟩ : ∃ j_ : Int, (shl .i64 1 a1_0) = j_ := ⟨_, rfl⟩
       replace H : (if (ji34) = 0 then (none) else (some (wrap64 (t211 + (Int.tmod (wrap64 (t212 * 257)) (ji34))), t213, t214))) = some (r1, r2, r3) := by first | (rw [hji34] at H; exact H) | (simp only [hji34] at H ⊢; exact H)
       (try rw [hji34] at A18)
       (try rw [hji34] at A31)
       (try rw [hji34] at A32)
       have hji34_ : (IntKind.i64.wrap (1 * 2 ^ min a1_0.toNat 64)) = ji34 := hji34
       have hji34z : a1_0 ≤ 64 → (IntKind.i64.wrap (1 * 2 ^ a1_0.toNat)) = ji34 := shl_small hji34
       have hji34u : (IntKind.i64.wrap (2 ^ min a1_0.toNat 64)) = ji34 := by have h_ := hji34_; rw [Int.one_mul] at h_; exact h_
       have hji34v : a1_0 ≤ 64 → (IntKind.i64.wrap (2 ^ a1_0.toNat)) = ji34 := fun hle_ => by have h_ := hji34z hle_; rw [Int.one_mul] at h_; exact h_
       have hji34y : (wrap64 (1 * 2 ^ min a1_0.toNat 64)) = ji34 := (i64_w _).symm.trans hji34_
       have hji34x : a1_0 ≤ 64 → (wrap64 (1 * 2 ^ a1_0.toNat)) = ji34 := fun h_ => (i64_w _).symm.trans (hji34z h_)
       by_cases c35 : (ji34) = 0
       ·rw [if_pos c35] at H
        exact absurd H (by simp)
       ·rw [if_neg c35] at H
        have c35b0 : ((ji34) == 0) = false := beq_eq_false_iff_ne.mpr c35
        have c35b1 : ((ji34) != 0) = true := bne_iff_ne.mpr c35
        simp only [Option.some.injEq, Prod.mk.injEq] at H
        obtain ⟨rfl, rfl, rfl⟩ := H
        try go_wp2_with (first | ((with_reducible refine gate_callee (f := 157) rfl ?_); refine goesLS_ (some 15) Try.func157 #[.pointer (some ⟨g, 0, none⟩), .int .i64 5] ?_; (with_reducible refine (spec_l1Cur_pick.calls g s0_0 x1001_2 x1002_2 5 t206 t207 t208 w0 _ ?side1 ?side2 A18.out).mono ?_); (case side1 => repeat (first | (with_reducible first | exact HI0.out | apply IsS90.alloc | apply IsS90.drewN | apply IsS90.drew | apply IsS90.set_1 | apply IsS90.set_2 | refine IsS90.far ?_ NB0_198.out _) | exact HI0.out)); (case side2 => repeat (first | (with_reducible first | exact HB.out | apply below_alloc | apply pw_below_drewN | apply below_drew1 | refine below_set ?_ (IsS90.ge HI0.out) | refine below_set ?_ GE198.out) | exact HB.out)); rintro e w36 ⟨rfl, hi, hb, hk⟩; refine ⟨_, rfl, ?_⟩; have n0_ := Aside0.mk (KeepBut.blk hk (g' := gb198) (o := .cells #[.int .i64 a1_0, .bool a1_1] 25 (0, 0)) (kb BK198.out) NB198_0.out (by simp)); have n1_ := Aside0.mk (KeepBut.trans (kk1 HK.out GW198.out) hk (.inl rfl)); have n2_ := Aside0.mk (hb); have n3_ := Aside0.mk (hi); clear BK198; clear HK; clear HB; clear HI0; have BK198 := n0_; have HK := n1_; have HB := n2_; have HI0 := n3_; clear n0_ n1_ n2_ n3_; (try clear hb); (try clear hb2); (try clear hk); (try clear hi)))
        have n0_ := Aside0.mk (blk_drew BK198.out)
        have n1_ := Aside0.mk (IsS90.drew HI0.out)
        have n2_ := Aside0.mk (keep_drew HK.out)
        have n3_ := Aside0.mk (below_drew1 HB.out)
        clear BK198
        clear HI0
        clear HK
        clear HB
        have BK198 := n0_
        have HI0 := n1_
        have HK := n2_
        have HB := n3_
        clear n0_ n1_ n2_ n3_
        refine start_ (n := 11) (S := fun w' => w'.cell? ⟨gb198, 0, none⟩ = some (.int .i64 a1_0) ∧ w'.cell? ⟨gb198, 1, none⟩ = some (.bool a1_1)) (ds := []) (bm 11 0) (by kernel_rfl) rfl rfl ⟨(blk_cell BK198.out 0).trans rfl, (blk_cell BK198.out 1).trans rfl⟩ (fun hHeld => ?_); refine with_tabW spec_l1Cur_inWord.tab8 spec_l1Cur_inWord.bits8 (fun HT_ HW_ => ?_)
        generalize w36.drew = w37 at BK198 HI0 HK HB hHeld ⊢
        refine pureT_ 2 26 (bm 11 4) HT_.out ?_
        refine pureT_ 5 29 (bm 11 36) HT_.out ?_
        refine take_ (i := 0) (N := some 24) (v := ?_) (a' := ?_) (bm 11 37) rfl rfl (take_ofW HT_.out HW_.out (by kernel_rfl)) (fun _ _ _ h => h) (Or.inl ⟨by rfl, ?_⟩) hHeld ?_ ?_
        rotate_left
        ·rintro w' ⟨s0, s1⟩
         go_simp
         with_reducible rfl
        rotate_left
        ·simp only [Act.put, List.setIfInBounds_toArray, List.set_cons_zero, List.set_cons_succ, i64_w, i32_w]
         rfl
        refine take_ (i := 6) (N := some 30) (v := ?_) (a' := ?_) (bm 11 101) rfl rfl (take_ofW HT_.out HW_.out (by kernel_rfl)) (fun _ _ _ h => h) (Or.inl ⟨by rfl, ?_⟩) hHeld ?_ ?_
        rotate_left
        ·rintro w' ⟨s0, s1⟩
         go_simp
         with_reducible rfl
        rotate_left
        ·simp only [Act.put, List.setIfInBounds_toArray, List.set_cons_zero, List.set_cons_succ, i64_w, i32_w]
         rfl
        refine pureT_ 7 31 (bm 11 229) HT_.out ?_
        refine one_ (i := 1) (N := some 25) (bm 11 231) rfl rfl (one_of HT_.out (by kernel_rfl)) (by decide) (fun K hK => ?_)
        refine goesS_ Try.func122 #[.agg #[.int .i64 a1_0, .bool a1_1]] ?_
        with_reducible refine (spec_wdLow.calls a1_0 a1_1 t211 _ A31.out).mono ?_
        rintro e w38 ⟨rfl, hb⟩
        refine ⟨_, rfl, ?_⟩
        have n0_ := Aside0.mk (blk_below (g := gb198) (o := .cells #[.int .i64 a1_0, .bool a1_1] 25 (0, 0)) (kb BK198.out) hb)
        have n1_ := Aside0.mk (IsS90.below (by repeat (first | (with_reducible first | exact HI0.out | apply IsS90.alloc | apply IsS90.drewN | apply IsS90.drew | apply IsS90.set_1 | apply IsS90.set_2 | refine IsS90.far ?_ NB0_198.out _) | exact HI0.out)) hb)
        have n2_ := Aside0.mk (KeepBut.trans (kk1 HK.out GW198.out) (KeepBut.of_below hb g none) (.inl rfl))
        have n3_ := Aside0.mk (below_step (bl2 HB.out (IsS90.ge HI0.out) GE198.out) hb)
        clear BK198
        clear HI0
        clear HK
        clear HB
        have BK198 := n0_
        have HI0 := n1_
        have HK := n2_
        have HB := n3_
        clear n0_ n1_ n2_ n3_
        (try clear hb)
        (try clear hb2)
        (try clear hk)
        (try clear hi)
        refine hK.out _ _ ⟨(blk_cell BK198.out 0).trans rfl, (blk_cell BK198.out 1).trans rfl⟩ (fun hHeld => ?_)
        clear hK K
        refine norm_ (a' := ?_) ?_ ?_
        rotate_left
        ·show Act.put _ (some 25) _ = _
         simp only [Act.put, List.setIfInBounds_toArray, List.set_cons_zero, List.set_cons_succ, i64_w, i32_w]
         rfl
        refine one_ (i := 3) (N := some 27) (bm 11 239) rfl rfl (one_of HT_.out (by kernel_rfl)) (by decide) (fun K hK => ?_)
        refine goesS_ Try.func157 #[.pointer (some ⟨g, 0, none⟩), .int .i64 256] ?_
        with_reducible refine (spec_l1Cur_pick.calls g s0_0 t207 t208 256 t212 t213 t214 w0 _ ?side1 ?side2 A32.out).mono ?_
        (case side1 => repeat (first | (with_reducible first | exact HI0.out | apply IsS90.alloc | apply IsS90.drewN | apply IsS90.drew | apply IsS90.set_1 | apply IsS90.set_2 | refine IsS90.far ?_ NB0_198.out _) | exact HI0.out))
        (case side2 => repeat (first | (with_reducible first | exact HB.out | apply below_alloc | apply pw_below_drewN | apply below_drew1 | refine below_set ?_ (IsS90.ge HI0.out) | refine below_set ?_ GE198.out) | exact HB.out))
        rintro e w39 ⟨rfl, hi, hb, hk⟩
        refine ⟨_, rfl, ?_⟩
        have n0_ := Aside0.mk (KeepBut.blk hk (g' := gb198) (o := .cells #[.int .i64 a1_0, .bool a1_1] 25 (0, 0)) (kb BK198.out) NB198_0.out (by simp))
        have n1_ := Aside0.mk (KeepBut.trans (kk1 HK.out GW198.out) hk (.inl rfl))
        have n2_ := Aside0.mk (hb)
        have n3_ := Aside0.mk (hi)
        clear BK198
        clear HK
        clear HB
        clear HI0
        have BK198 := n0_
        have HK := n1_
        have HB := n2_
        have HI0 := n3_
        clear n0_ n1_ n2_ n3_
        (try clear hb)
        (try clear hb2)
        (try clear hk)
        (try clear hi)
        refine hK.out _ _ ⟨(blk_cell BK198.out 0).trans rfl, (blk_cell BK198.out 1).trans rfl⟩ (fun hHeld => ?_)
        clear hK K
        refine norm_ (a' := ?_) ?_ ?_
        rotate_left
        ·show Act.put _ (some 27) _ = _
         simp only [Act.put, List.setIfInBounds_toArray, List.set_cons_zero, List.set_cons_succ, i64_w, i32_w]
         rfl
        refine pureT_ 4 28 (bm 11 255) HT_.out ?_
        refine pureT_ 8 32 (bm 11 511) HT_.out ?_
        refine pureT_ 9 33 (bm 11 1023) HT_.out ?_
        refine pureT_ 10 4 (bm 11 2047) HT_.out ?_
        refine done_ (done_of HT_.out (by kernel_rfl)) ?_
        try go_wp2
        go_ret
        exact ⟨by first | rfl | (simp [errW_none, errW_some] <;> rfl) | (simp only [← hji34]; first | rfl | (simp [errW_none, errW_some] <;> rfl)) | (simp [*, errW_none, errW_some] <;> rfl), by repeat (first | (with_reducible first | exact HI0.out | apply IsS90.alloc | apply IsS90.drewN | apply IsS90.drew | apply IsS90.set_1 | apply IsS90.set_2 | refine IsS90.far ?_ NB0_198.out _) | exact HI0.out), bl2 HB.out (IsS90.ge HI0.out) GE198.out, kk1 HK.out GW198.out⟩
      ·rw [if_neg c33] at H
       exact absurd H (by simp)

/-! ### spec_l1Cur_signal: function 82 -/
def spec_l1Cur_signal.l0 : Nat → Int → List Int → Int → List Int → Int → Int → Option (List Int × Int × Int)
 | 0, _, _, _, _, _, _ => none
 | k + 1, x2, x7, x8, x1000, x1001, x1002 => if x8 > 0 then ((spec_l1Cur_one.f x1000 x1001 x1002 4).bind fun bt218 => (if bt218.1 = true then (if x7.length < 17592186044416 then (spec_l1Cur_signal.l0 k x2 (x7 ++ [0]) (wrap64 (x8 - 1)) x1000 bt218.2.1 bt218.2.2) else (none)) else ((spec_l1Cur_pick.f x1000 bt218.2.1 bt218.2.2 (wrap64 ((wrap64 (2 * x2)) + 1))).bind fun bt224 => (if x7.length < 17592186044416 then (spec_l1Cur_signal.l0 k x2 (x7 ++ [wrap64 (bt224.1 - x2)]) (wrap64 (x8 - 1)) x1000 bt224.2.1 bt224.2.2) else (none))))) else ((spec_l1Cur_pick.f x1000 x1001 x1002 16).bind fun bt230 => (if bt230.1 = 0 then ((spec_l1Cur_among.f x1000 bt230.2.1 bt230.2.2 (([100000, (-100000), 100001, 4611686018427387904] : List Int))).bind fun bt236 => (if x7.length < 17592186044416 then (some ((x7 ++ [bt236.1]), bt236.2.1, bt236.2.2)) else (none))) else (if bt230.1 = 1 then ((spec_l1Cur_pick.f x1000 bt230.2.1 bt230.2.2 2).bind fun bt242 => (if 0 ≤ (wrap64 (64 + bt242.1)) then (if (wrap64 (64 + bt242.1) : Int).toNat ≤ 35184372088832 then (some ((List.replicate (wrap64 (64 + bt242.1) : Int).toNat 0), bt242.2.1, bt242.2.2)) else (none)) else (none))) else (some (x7, bt230.2.1, bt230.2.2)))))
def spec_l1Cur_signal.f (k : Nat) (s0_0 : List Int) (s0_1 : Int) (s0_2 : Int) (a1 : Int) (a2 : Int) : Option (List Int × Int × Int) := (spec_l1Cur_pick.f s0_0 s0_1 s0_2 (wrap64 (a1 + 1))).bind fun bt215 => (spec_l1Cur_signal.l0 k a2 ([] : List Int) bt215.1 s0_0 bt215.2.1 bt215.2.2)

set_option maxHeartbeats 80000000 in
set_option maxRecDepth 100000 in
theorem spec_l1Cur_signal.calls (k : Nat) (g : Nat) (s0_0 : List Int) (s0_1 : Int) (s0_2 : Int) (a1 : Int) (a2 : Int) (r1 : List Int) (r2 : Int) (r3 : Int) (w0 w : World) (hI : IsS90 w0 w g s0_0 s0_1 s0_2) (hB : Below w0.heap.size w0 w) (h : spec_l1Cur_signal.f k s0_0 s0_1 s0_2 a1 a2 = some (r1, r2, r3)) :
  Calls Try.prog 82 #[.pointer (some ⟨g, 0, none⟩), .int .i64 a1, .int .i64 a2] w fun e w' => ∃ v0_ : Value, e = .returned (v0_) ∧ Kd.R (Kd.int .i64) 3 w' w.heap.size (fun _ => True) v0_ r1 ∧ IsS90 w0 w' g s0_0 r2 r3 ∧ Below w0.heap.size w0 w' ∧ KeepBut w w' g none := by
 have HI0 := Aside0.mk hI
 have HK := Aside0.mk (KeepBut.refl w g none)
 have HL := Aside0.mk hB.size
 clear hI
 have HW0 := Aside0.mk hB.size
 have HB := Aside0.mk hB
 clear hB
 have H : ((spec_l1Cur_pick.f s0_0 s0_1 s0_2 (wrap64 (a1 + 1))).bind fun bt215 => (spec_l1Cur_signal.l0 k a2 ([] : List Int) bt215.1 s0_0 bt215.2.1 bt215.2.2)) = some (r1, r2, r3) := h
 clear h
 replace H := Option.bind_eq_some_iff.mp H
 obtain ⟨⟨t215, t216, t217⟩, A40, H⟩ := H
 (try dsimp only at H)
 have A4 := Aside0.mk A40
 clear A40
 have H' := Aside0.mk H
 clear H
 go_enter Try.func82, Try.ntmps82
 go_wp2_with (first | ((with_reducible refine gate_callee (f := 157) rfl ?_); refine goesLS_ (some 13) Try.func157 #[.pointer (some ⟨g, 0, none⟩), .int .i64 (wrap64 (a1 + 1))] ?_; (with_reducible refine (spec_l1Cur_pick.calls g s0_0 s0_1 s0_2 (wrap64 (a1 + 1)) t215 t216 t217 w0 _ ?side1 ?side2 A4.out).mono ?_); (case side1 => repeat (first | (with_reducible first | exact HI0.out | apply IsS90.alloc | apply IsS90.drewN | apply IsS90.drew | apply IsS90.set_1 | apply IsS90.set_2) | exact HI0.out)); (case side2 => repeat (first | (with_reducible first | exact HB.out | apply below_alloc | apply pw_below_drewN | apply below_drew1 | refine below_set ?_ (IsS90.ge HI0.out)) | exact HB.out)); rintro e w5 ⟨rfl, hi, hb, hk⟩; refine ⟨_, rfl, ?_⟩; have n0_ := Aside0.mk (KeepBut.trans (kk0 HK.out) hk (.inl rfl)); have n1_ := Aside0.mk (hb); have n2_ := Aside0.mk (hi); clear HK; clear HB; clear HI0; have HK := n0_; have HB := n1_; have HI0 := n2_; clear n0_ n1_ n2_; (try clear hb); (try clear hb2); (try clear hk); (try clear hi)))
 go_loopg [7, 8] k (fun kq v7 v8 w' => ∃ (x7_1 : List Int) (x8_1 : Int) (x1001_1 : Int) (x1002_1 : Int), v8 = .int .i64 x8_1 ∧ Aside0 (spec_l1Cur_signal.l0 kq a2 x7_1 x8_1 s0_0 x1001_1 x1002_1 = some (r1, r2, r3)) ∧ Aside0 (kq ≤ k) ∧ Aside0 (Kd.R (Kd.int .i64) 3 w' w.heap.size (fun _ => True) v7 x7_1) ∧ Aside0 (IsS90 w0 w' g s0_0 x1001_1 x1002_1) ∧ Aside0 (KeepBut w w' g none) ∧ Aside0 (Below w0.heap.size w0 w'))
 case atStart => exact ⟨(([] : List Int)), (t215), (t216), (t217), (by first | rfl | (simp; done) | (simp [*]; done)), H', ⟨Nat.le_refl _⟩, ⟨by first | exact Kd.R_nil _ _ _ _ _ | exact Kd.N_nil _ _ _ _ _ | exact Kd.V_nil _ _ _ _ _ | exact Kd.Q_nil _ _ _ _ _ | exact Kd.S_nil _ _ _ _ _⟩, ⟨by repeat (first | (with_reducible first | exact HI0.out | apply IsS90.alloc | apply IsS90.drewN | apply IsS90.drew | apply IsS90.set_1 | apply IsS90.set_2) | exact HI0.out)⟩, ⟨kk0 HK.out⟩, ⟨bl1 HB.out (IsS90.ge HI0.out)⟩⟩
 case round =>
  clear H'
  try clear c1
  try clear p2
  obtain ⟨x7_1, x8_1, x1001_1, x1002_1, rfl, HA, HK1, HO_7, HI0, HK, HB⟩ := hrel
  cases gk with
  | zero => exact absurd HA.out (by simp [spec_l1Cur_signal.l0])
  | succ k1 =>
   have H := HA.out
   clear HA
   simp only [spec_l1Cur_signal.l0] at H
   by_cases c6 : x8_1 > 0
   ·rw [if_pos c6] at H
    have c6b0 : decide (0 < x8_1) = true := decide_eq_true c6
    clear c6
    replace H := Option.bind_eq_some_iff.mp H
    obtain ⟨⟨t218, t219, t220⟩, A70, H⟩ := H
    (try dsimp only at H)
    have A7 := Aside0.mk A70
    clear A70
    by_cases c8 : t218 = true
    ·subst c8
     rw [if_pos rfl] at H
     by_cases c9 : x7_1.length < 17592186044416
     ·rw [if_pos c9] at H
      have LMc9 := Aside0.mk c9
      clear c9
      obtain ⟨y221, hy221⟩ : ∃ y_ : List Int, y_ = (x7_1 ++ [0]) := ⟨_, rfl⟩
      replace H : (spec_l1Cur_signal.l0 k1 a2 y221 (wrap64 (x8_1 - 1)) s0_0 t219 t220) = some (r1, r2, r3) := by first | (rw [hy221]; with_reducible exact H) | (have H2_ := (Option.bind_some _ _).symm.trans H; rw [hy221]; with_reducible exact H2_) | (have H2_ := (Option.bind_some _ _).symm.trans H; with_reducible exact H2_) | with_reducible exact H | (rw [hy221]; exact H) | exact H
      have Ny221 := Aside0.mk hy221
      clear hy221
      have H' := Aside0.mk H
      clear H
      go_wp2_with (first | ((with_reducible refine gate_callee (f := 158) rfl ?_); refine goesLS_ (some 19) Try.func158 #[.pointer (some ⟨g, 0, none⟩), .int .i64 4] ?_; (with_reducible refine (spec_l1Cur_one.calls g s0_0 x1001_1 x1002_1 4 true t219 t220 w0 _ ?side1 ?side2 A7.out).mono ?_); (case side1 => repeat (first | (with_reducible first | exact HI0.out | apply IsS90.alloc | apply IsS90.drewN | apply IsS90.drew | apply IsS90.set_1 | apply IsS90.set_2) | exact HI0.out)); (case side2 => repeat (first | (with_reducible first | exact HB.out | apply below_alloc | apply pw_below_drewN | apply below_drew1 | refine below_set ?_ (IsS90.ge HI0.out)) | exact HB.out)); rintro e w10 ⟨rfl, hi, hb, hk⟩; refine ⟨_, rfl, ?_⟩; have n0_ := Aside0.mk (Kd.R_mono (Kd.R_keep (IsS90.apart (show IsS90 w0 _ g s0_0 x1001_1 x1002_1 from by repeat (first | (with_reducible first | exact HI0.out | apply IsS90.alloc | apply IsS90.drewN | apply IsS90.drew | apply IsS90.set_1 | apply IsS90.set_2) | exact HI0.out)) (kr HO_7.out) (by decide)) hk (fun _ h => h.2)) (fun _ h => h.1)); have n1_ := Aside0.mk (KeepBut.trans (kk0 HK.out) hk (.inl rfl)); have n2_ := Aside0.mk (hb); have n3_ := Aside0.mk (hi); clear HO_7; clear HK; clear HB; clear HI0; have HO_7 := n0_; have HK := n1_; have HB := n2_; have HI0 := n3_; clear n0_ n1_ n2_ n3_; (try clear hb); (try clear hb2); (try clear hk); (try clear hi)) | ((with_reducible refine gate_builtin (b := .append) (xs := #[.tmp 28, .tmp 30]) rfl ?_); at_builtin; refine Kd.R_append (Kd.int .i64) w.heap.size rfl (.tmp 28) (.tmp 30) 28 3 (.int .i64 0) 8 rfl Try.underlying28 info3 rfl (by decide) (by omega) u7 x7_1 0 [.int .i64 0] (fun _ => True) (fun _ => False) rfl rfl ?aP (fun _ hk => hk.elim) ?aF ?aO (Below.refl _ _) ?aS ?aL ?_; (case aP => exact rfl); (case aF => exact (fun _ _ => trivial)); (case aO => exact (kr HO_7.out)); (case aS => exact (keep_size (w := w) (g := g) (row := none) (kk0 HK.out))); (case aL => have := LMc9.out; omega); intro v222 w11 ho hb hg hat; rw [← Ny221.out] at ho; have n0_ := Aside0.mk (IsS90.grown (by repeat (first | (with_reducible first | exact HI0.out | apply IsS90.alloc | apply IsS90.drewN | apply IsS90.drew | apply IsS90.set_1 | apply IsS90.set_2) | exact HI0.out)) hg (IsS90.own_ne HI0.out HO_7.out (by decide))); have n1_ := Aside0.mk (below_weaken (bl1 HB.out (IsS90.ge HI0.out)) HL.out hb); have n2_ := Aside0.mk (KeepBut.trans (kk0 HK.out) (KeepBut.of_grown hg g) (Kd.R_base2 HO_7.out)); have n3_ := Aside0.mk (ho); clear HI0; clear HB; clear HK; clear HO_7; have HI0 := n0_; have HB := n1_; have HK := n2_; have HO223 := n3_; clear n0_ n1_ n2_ n3_; clear ho hb hg hat))
      go_roundg k1
      case measure => have := HK1.out; omega
      case rel => exact ⟨(y221), (wrap64 (x8_1 - 1)), (t219), (t220), (by first | rfl | (simp; done) | (simp [*]; done)), H', ⟨by have := HK1.out; omega⟩, ⟨kr HO223.out⟩, ⟨by repeat (first | (with_reducible first | exact HI0.out | apply IsS90.alloc | apply IsS90.drewN | apply IsS90.drew | apply IsS90.set_1 | apply IsS90.set_2) | exact HI0.out)⟩, ⟨kk0 HK.out⟩, ⟨bl1 HB.out (IsS90.ge HI0.out)⟩⟩
     ·rw [if_neg c9] at H
      exact absurd H (by simp)
    ·replace c8 := Bool.eq_false_iff.mpr c8
     subst c8
     rw [if_neg (show ¬ (false = true) by decide)] at H
     replace H := Option.bind_eq_some_iff.mp H
     obtain ⟨⟨t224, t225, t226⟩, A120, H⟩ := H
     (try dsimp only at H)
     have A12 := Aside0.mk A120
     clear A120
     by_cases c13 : x7_1.length < 17592186044416
     ·rw [if_pos c13] at H
      have LMc13 := Aside0.mk c13
      clear c13
      obtain ⟨y227, hy227⟩ : ∃ y_ : List Int, y_ = (x7_1 ++ [wrap64 (t224 - a2)]) := ⟨_, rfl⟩
      replace H : (spec_l1Cur_signal.l0 k1 a2 y227 (wrap64 (x8_1 - 1)) s0_0 t225 t226) = some (r1, r2, r3) := by first | (rw [hy227]; with_reducible exact H) | (have H2_ := (Option.bind_some _ _).symm.trans H; rw [hy227]; with_reducible exact H2_) | (have H2_ := (Option.bind_some _ _).symm.trans H; with_reducible exact H2_) | with_reducible exact H | (rw [hy227]; exact H) | exact H
      have Ny227 := Aside0.mk hy227
      clear hy227
      have H' := Aside0.mk H
      clear H
      go_wp2_with (first | ((with_reducible refine gate_callee (f := 158) rfl ?_); refine goesLS_ (some 19) Try.func158 #[.pointer (some ⟨g, 0, none⟩), .int .i64 4] ?_; (with_reducible refine (spec_l1Cur_one.calls g s0_0 x1001_1 x1002_1 4 false t219 t220 w0 _ ?side1 ?side2 A7.out).mono ?_); (case side1 => repeat (first | (with_reducible first | exact HI0.out | apply IsS90.alloc | apply IsS90.drewN | apply IsS90.drew | apply IsS90.set_1 | apply IsS90.set_2) | exact HI0.out)); (case side2 => repeat (first | (with_reducible first | exact HB.out | apply below_alloc | apply pw_below_drewN | apply below_drew1 | refine below_set ?_ (IsS90.ge HI0.out)) | exact HB.out)); rintro e w14 ⟨rfl, hi, hb, hk⟩; refine ⟨_, rfl, ?_⟩; have n0_ := Aside0.mk (Kd.R_mono (Kd.R_keep (IsS90.apart (show IsS90 w0 _ g s0_0 x1001_1 x1002_1 from by repeat (first | (with_reducible first | exact HI0.out | apply IsS90.alloc | apply IsS90.drewN | apply IsS90.drew | apply IsS90.set_1 | apply IsS90.set_2) | exact HI0.out)) (kr HO_7.out) (by decide)) hk (fun _ h => h.2)) (fun _ h => h.1)); have n1_ := Aside0.mk (KeepBut.trans (kk0 HK.out) hk (.inl rfl)); have n2_ := Aside0.mk (hb); have n3_ := Aside0.mk (hi); clear HO_7; clear HK; clear HB; clear HI0; have HO_7 := n0_; have HK := n1_; have HB := n2_; have HI0 := n3_; clear n0_ n1_ n2_ n3_; (try clear hb); (try clear hb2); (try clear hk); (try clear hi)) | ((with_reducible refine gate_callee (f := 157) rfl ?_); refine goesLS_ (some 25) Try.func157 #[.pointer (some ⟨g, 0, none⟩), .int .i64 (wrap64 ((wrap64 (2 * a2)) + 1))] ?_; (with_reducible refine (spec_l1Cur_pick.calls g s0_0 t219 t220 (wrap64 ((wrap64 (2 * a2)) + 1)) t224 t225 t226 w0 _ ?side1 ?side2 A12.out).mono ?_); (case side1 => repeat (first | (with_reducible first | exact HI0.out | apply IsS90.alloc | apply IsS90.drewN | apply IsS90.drew | apply IsS90.set_1 | apply IsS90.set_2) | exact HI0.out)); (case side2 => repeat (first | (with_reducible first | exact HB.out | apply below_alloc | apply pw_below_drewN | apply below_drew1 | refine below_set ?_ (IsS90.ge HI0.out)) | exact HB.out)); rintro e w15 ⟨rfl, hi, hb, hk⟩; refine ⟨_, rfl, ?_⟩; have n0_ := Aside0.mk (Kd.R_mono (Kd.R_keep (IsS90.apart (show IsS90 w0 _ g s0_0 t219 t220 from by repeat (first | (with_reducible first | exact HI0.out | apply IsS90.alloc | apply IsS90.drewN | apply IsS90.drew | apply IsS90.set_1 | apply IsS90.set_2) | exact HI0.out)) (kr HO_7.out) (by decide)) hk (fun _ h => h.2)) (fun _ h => h.1)); have n1_ := Aside0.mk (KeepBut.trans (kk0 HK.out) hk (.inl rfl)); have n2_ := Aside0.mk (hb); have n3_ := Aside0.mk (hi); clear HO_7; clear HK; clear HB; clear HI0; have HO_7 := n0_; have HK := n1_; have HB := n2_; have HI0 := n3_; clear n0_ n1_ n2_ n3_; (try clear hb); (try clear hb2); (try clear hk); (try clear hi)) | ((with_reducible refine gate_builtin (b := .append) (xs := #[.tmp 28, .tmp 30]) rfl ?_); at_builtin; refine Kd.R_append (Kd.int .i64) w.heap.size rfl (.tmp 28) (.tmp 30) 28 3 (.int .i64 0) 8 rfl Try.underlying28 info3 rfl (by decide) (by omega) u7 x7_1 (wrap64 (t224 - a2)) [.int .i64 (wrap64 (t224 - a2))] (fun _ => True) (fun _ => False) rfl rfl ?aP (fun _ hk => hk.elim) ?aF ?aO (Below.refl _ _) ?aS ?aL ?_; (case aP => exact rfl); (case aF => exact (fun _ _ => trivial)); (case aO => exact (kr HO_7.out)); (case aS => exact (keep_size (w := w) (g := g) (row := none) (kk0 HK.out))); (case aL => have := LMc13.out; omega); intro v228 w16 ho hb hg hat; rw [← Ny227.out] at ho; have n0_ := Aside0.mk (IsS90.grown (by repeat (first | (with_reducible first | exact HI0.out | apply IsS90.alloc | apply IsS90.drewN | apply IsS90.drew | apply IsS90.set_1 | apply IsS90.set_2) | exact HI0.out)) hg (IsS90.own_ne HI0.out HO_7.out (by decide))); have n1_ := Aside0.mk (below_weaken (bl1 HB.out (IsS90.ge HI0.out)) HL.out hb); have n2_ := Aside0.mk (KeepBut.trans (kk0 HK.out) (KeepBut.of_grown hg g) (Kd.R_base2 HO_7.out)); have n3_ := Aside0.mk (ho); clear HI0; clear HB; clear HK; clear HO_7; have HI0 := n0_; have HB := n1_; have HK := n2_; have HO229 := n3_; clear n0_ n1_ n2_ n3_; clear ho hb hg hat))
      go_roundg k1
      case measure => have := HK1.out; omega
      case rel => exact ⟨(y227), (wrap64 (x8_1 - 1)), (t225), (t226), (by first | rfl | (simp; done) | (simp [*]; done)), H', ⟨by have := HK1.out; omega⟩, ⟨kr HO229.out⟩, ⟨by repeat (first | (with_reducible first | exact HI0.out | apply IsS90.alloc | apply IsS90.drewN | apply IsS90.drew | apply IsS90.set_1 | apply IsS90.set_2) | exact HI0.out)⟩, ⟨kk0 HK.out⟩, ⟨bl1 HB.out (IsS90.ge HI0.out)⟩⟩
     ·rw [if_neg c13] at H
      exact absurd H (by simp)
   ·rw [if_neg c6] at H
    have c6b0 : decide (0 < x8_1) = false := decide_eq_false c6
    clear c6
    replace H := Option.bind_eq_some_iff.mp H
    obtain ⟨⟨t230, t231, t232⟩, A170, H⟩ := H
    (try dsimp only at H)
    have A17 := Aside0.mk A170
    clear A170
    by_cases c18 : t230 = 0
    ·rw [if_pos c18] at H
     have c18b0 : (t230 == 0) = true := beq_iff_eq.mpr c18
     have c18b1 : (t230 != 0) = false := bne_eq_false_iff_eq.mpr c18
     clear c18
     obtain ⟨y233, hy233⟩ : ∃ y_ : List Int, y_ = (([100000, (-100000), 100001, 4611686018427387904] : List Int)) := ⟨_, rfl⟩
     replace H : ((spec_l1Cur_among.f s0_0 t231 t232 y233).bind fun bt236 => (if x7_1.length < 17592186044416 then (some ((x7_1 ++ [bt236.1]), bt236.2.1, bt236.2.2)) else (none))) = some (r1, r2, r3) := by first | (rw [hy233]; with_reducible exact H) | (have H2_ := (Option.bind_some _ _).symm.trans H; rw [hy233]; with_reducible exact H2_) | (have H2_ := (Option.bind_some _ _).symm.trans H; with_reducible exact H2_) | with_reducible exact H | (rw [hy233]; exact H) | exact H
     have Ny233 := Aside0.mk hy233
     clear hy233
     replace H := Option.bind_eq_some_iff.mp H
     obtain ⟨⟨t236, t237, t238⟩, A190, H⟩ := H
     (try dsimp only at H)
     have A19 := Aside0.mk A190
     clear A190
     by_cases c20 : x7_1.length < 17592186044416
     ·rw [if_pos c20] at H
      have LMc20 := Aside0.mk c20
      clear c20
      obtain ⟨y239, hy239⟩ : ∃ y_ : List Int, y_ = (x7_1 ++ [t236]) := ⟨_, rfl⟩
      replace H : (some (y239, t237, t238)) = some (r1, r2, r3) := by first | (rw [hy239]; with_reducible exact H) | (have H2_ := (Option.bind_some _ _).symm.trans H; rw [hy239]; with_reducible exact H2_) | (have H2_ := (Option.bind_some _ _).symm.trans H; with_reducible exact H2_) | with_reducible exact H | (rw [hy239]; exact H) | exact H
      have Ny239 := Aside0.mk hy239
      clear hy239
      simp only [Option.some.injEq, Prod.mk.injEq] at H
      obtain ⟨rfl, rfl, rfl⟩ := H
      go_wp2_with (first | ((with_reducible refine gate_callee (f := 157) rfl ?_); refine goesLS_ (some 33) Try.func157 #[.pointer (some ⟨g, 0, none⟩), .int .i64 16] ?_; (with_reducible refine (spec_l1Cur_pick.calls g s0_0 x1001_1 x1002_1 16 t230 t231 t232 w0 _ ?side1 ?side2 A17.out).mono ?_); (case side1 => repeat (first | (with_reducible first | exact HI0.out | apply IsS90.alloc | apply IsS90.drewN | apply IsS90.drew | apply IsS90.set_1 | apply IsS90.set_2) | exact HI0.out)); (case side2 => repeat (first | (with_reducible first | exact HB.out | apply below_alloc | apply pw_below_drewN | apply below_drew1 | refine below_set ?_ (IsS90.ge HI0.out)) | exact HB.out)); rintro e w21 ⟨rfl, hi, hb, hk⟩; refine ⟨_, rfl, ?_⟩; have n0_ := Aside0.mk (Kd.R_mono (Kd.R_keep (IsS90.apart (show IsS90 w0 _ g s0_0 x1001_1 x1002_1 from by repeat (first | (with_reducible first | exact HI0.out | apply IsS90.alloc | apply IsS90.drewN | apply IsS90.drew | apply IsS90.set_1 | apply IsS90.set_2) | exact HI0.out)) (kr HO_7.out) (by decide)) hk (fun _ h => h.2)) (fun _ h => h.1)); have n1_ := Aside0.mk (KeepBut.trans (kk0 HK.out) hk (.inl rfl)); have n2_ := Aside0.mk (hb); have n3_ := Aside0.mk (hi); clear HO_7; clear HK; clear HB; clear HI0; have HO_7 := n0_; have HK := n1_; have HB := n2_; have HI0 := n3_; clear n0_ n1_ n2_ n3_; (try clear hb); (try clear hb2); (try clear hk); (try clear hi)) | ((with_reducible refine gate_dst (N := 38) rfl ?_); refine Kd.R_lit (Kd.int .i64) _ 3 ?hg (N := 38) ?hd (xs := ([100000, (-100000), 100001, 4611686018427387904] : List Int)) (inner := [.int .i64 100000, .int .i64 (-100000), .int .i64 100001, .int .i64 4611686018427387904]) (ok := fun _ => True) (okp := fun _ => True) ?hr ?hp (fun _ hk => hk) trivial (Below.refl _ _) (Nat.le_refl _) (by simp) ?_; (case hd => rfl); (case hg => rfl); (case hr => first | (go_simp; done) | (go_simp; rfl)); (case hp => exact (Reps.one (show Kd.M (Kd.int .i64) _ _ _ 100000 [.int .i64 100000] from rfl) (Reps.one (show Kd.M (Kd.int .i64) _ _ _ (-100000) [.int .i64 (-100000)] from rfl) (Reps.one (show Kd.M (Kd.int .i64) _ _ _ 100001 [.int .i64 100001] from rfl) (Reps.one (show Kd.M (Kd.int .i64) _ _ _ 4611686018427387904 [.int .i64 4611686018427387904] from rfl) (Reps.none _ _)))))); intro v234 w22 ho23 hb hg_ hnew_; clear hg_ hnew_; (first | rw [← Ny233.out] at ho23 | (simp only [Int.reduceToNat] at ho23; rw [← Ny233.out] at ho23)); have n0_ := Aside0.mk (Kd.R_elder' (kr HO_7.out) (Kd.R_base ho23) hb); have n1_ := Aside0.mk (Kd.R_lower (Kd.R_new' ho23 (Kd.R_lt (kr HO_7.out))) (keep_size (w := w) (g := g) (row := none) (kk0 HK.out))); have n2_ := Aside0.mk (IsS90.below (by repeat (first | (with_reducible first | exact HI0.out | apply IsS90.alloc | apply IsS90.drewN | apply IsS90.drew | apply IsS90.set_1 | apply IsS90.set_2) | exact HI0.out)) hb); have n3_ := Aside0.mk (KeepBut.trans (kk0 HK.out) (KeepBut.of_below hb g none) (.inl rfl)); have n4_ := Aside0.mk (below_step (bl1 HB.out (IsS90.ge HI0.out)) hb); clear HO_7; clear HI0; clear HK; clear HB; have HO_7 := n0_; have HO235 := n1_; have HI0 := n2_; have HK := n3_; have HB := n4_; clear n0_ n1_ n2_ n3_ n4_; clear hb ho23; obtain ⟨Ao24, co24, eo24⟩ := Kd.R_slice HO235.out; subst eo24) | ((with_reducible refine gate_callee (f := 110) rfl ?_); refine goesLS_ (some 39) Try.func110 #[.pointer (some ⟨g, 0, none⟩), .slice Ao24 y233.length co24] ?_; (with_reducible refine (spec_l1Cur_among.calls g s0_0 t231 t232 _ _ y233 t236 t237 t238 w0 _ ?side1 ?side2 ?side3 ?side4 ?side5 A19.out).mono ?_); (case side1 => repeat (first | (with_reducible first | exact HI0.out | apply IsS90.alloc | apply IsS90.drewN | apply IsS90.drew | apply IsS90.set_1 | apply IsS90.set_2) | exact HI0.out)); (case side2 => repeat (first | (with_reducible first | exact HB.out | apply below_alloc | apply pw_below_drewN | apply below_drew1 | refine below_set ?_ (IsS90.ge HI0.out)) | exact HB.out)); (case side3 => repeat (first | exact (Kd.R_reads' HO235.out).2.2 | (with_reducible refine Kd.C_alloc ?_ _) | (with_reducible refine Kd.C_drewN ?_ _) | (with_reducible refine Kd.C_drew ?_))); (case side4 => exact (Kd.R_reads' HO235.out).2.1); (case side5 => exact far_slice (IsS90.own_ne HI0.out HO235.out (by decide))); rintro e w25 ⟨rfl, hi, hb, hk⟩; refine ⟨_, rfl, ?_⟩; have n0_ := Aside0.mk (Kd.R_mono (Kd.R_keep (IsS90.apart (show IsS90 w0 _ g s0_0 t231 t232 from by repeat (first | (with_reducible first | exact HI0.out | apply IsS90.alloc | apply IsS90.drewN | apply IsS90.drew | apply IsS90.set_1 | apply IsS90.set_2) | exact HI0.out)) (kr HO_7.out) (by decide)) hk (fun _ h => h.2)) (fun _ h => h.1)); have n1_ := Aside0.mk (Kd.R_mono (Kd.R_keep (IsS90.apart (show IsS90 w0 _ g s0_0 t231 t232 from by repeat (first | (with_reducible first | exact HI0.out | apply IsS90.alloc | apply IsS90.drewN | apply IsS90.drew | apply IsS90.set_1 | apply IsS90.set_2) | exact HI0.out)) (kr HO235.out) (by decide)) hk (fun _ h => h.2)) (fun _ h => h.1)); have n2_ := Aside0.mk (KeepBut.trans (kk0 HK.out) hk (.inl rfl)); have n3_ := Aside0.mk (hb); have n4_ := Aside0.mk (hi); clear HO_7; clear HO235; clear HK; clear HB; clear HI0; have HO_7 := n0_; have HO235 := n1_; have HK := n2_; have HB := n3_; have HI0 := n4_; clear n0_ n1_ n2_ n3_ n4_; (try clear hb); (try clear hb2); (try clear hk); (try clear hi)) | ((with_reducible refine gate_builtin (b := .append) (xs := #[.tmp 36, .tmp 40]) rfl ?_); at_builtin; refine Kd.R_append (Kd.int .i64) w.heap.size rfl (.tmp 36) (.tmp 40) 28 3 (.int .i64 0) 8 rfl Try.underlying28 info3 rfl (by decide) (by omega) u7 x7_1 t236 [.int .i64 t236] (fun k_ => some k_ ≠ (.slice Ao24 y233.length co24 : Value).ownBlock) (fun _ => False) rfl rfl ?aP (fun _ hk => hk.elim) ?aF ?aO (Below.refl _ _) ?aS ?aL ?_; (case aP => exact rfl); (case aF => exact (fun k_ hk => Kd.fresh' (Kd.R_lt (kr HO235.out)) k_ hk)); (case aO => exact (by (with_reducible repeat (first | apply Kd.R_alloc | apply Kd.R_drewN | apply Kd.R_drew)); exact Kd.R_mono HO_7.out (fun _ hk => hk.2))); (case aS => exact (keep_size (w := w) (g := g) (row := none) (kk0 HK.out))); (case aL => have := LMc20.out; omega); intro v240 w26 ho hb hg hat; rw [← Ny239.out] at ho; have n0_ := Aside0.mk (IsS90.grown (by repeat (first | (with_reducible first | exact HI0.out | apply IsS90.alloc | apply IsS90.drewN | apply IsS90.drew | apply IsS90.set_1 | apply IsS90.set_2) | exact HI0.out)) hg (IsS90.own_ne HI0.out HO_7.out (by decide))); have n1_ := Aside0.mk (Kd.R_after (ok := (fun _ => True)) (kr HO235.out) hg hat); have n2_ := Aside0.mk (below_weaken (bl1 HB.out (IsS90.ge HI0.out)) HL.out hb); have n3_ := Aside0.mk (KeepBut.trans (kk0 HK.out) (KeepBut.of_grown hg g) (Kd.R_base2 HO_7.out)); have n4_ := Aside0.mk (ho); clear HI0; clear HO235; clear HB; clear HK; clear HO_7; have HI0 := n0_; have HO235 := n1_; have HB := n2_; have HK := n3_; have HO241 := n4_; clear n0_ n1_ n2_ n3_ n4_; clear ho hb hg hat))
      go_ret
      exact ⟨_, by first | rfl | (simp [errW_none, errW_some] <;> rfl) | (simp [*, errW_none, errW_some] <;> rfl), by (with_reducible repeat (first | apply Kd.R_alloc | apply Kd.R_drewN | apply Kd.R_drew)); exact Kd.R_mono HO241.out (fun _ hk => trivial), by repeat (first | (with_reducible first | exact HI0.out | apply IsS90.alloc | apply IsS90.drewN | apply IsS90.drew | apply IsS90.set_1 | apply IsS90.set_2) | exact HI0.out), bl1 HB.out (IsS90.ge HI0.out), kk0 HK.out⟩
     ·rw [if_neg c20] at H
      exact absurd H (by simp)
    ·rw [if_neg c18] at H
     have c18b0 : (t230 == 0) = false := beq_eq_false_iff_ne.mpr c18
     have c18b1 : (t230 != 0) = true := bne_iff_ne.mpr c18
     by_cases c27 : t230 = 1
     ·rw [if_pos c27] at H
      have c27b0 : (t230 == 1) = true := beq_iff_eq.mpr c27
      have c27b1 : (t230 != 1) = false := bne_eq_false_iff_eq.mpr c27
      clear c27
      replace H := Option.bind_eq_some_iff.mp H
      obtain ⟨⟨t242, t243, t244⟩, A280, H⟩ := H
      (try dsimp only at H)
      have A28 := Aside0.mk A280
      clear A280
      obtain ⟨ji29, hji29⟩ : ∃ j_ : Int, (wrap64 (64 + t242)) = j_ := ⟨_, rfl⟩
      replace H : (if 0 ≤ (ji29) then (if (ji29 : Int).toNat ≤ 35184372088832 then (some ((List.replicate (ji29 : Int).toNat 0), t243, t244)) else (none)) else (none)) = some (r1, r2, r3) := by first | (rw [hji29] at H; exact H) | (simp only [hji29] at H ⊢; exact H)
      (try rw [hji29] at A17)
      (try rw [hji29] at A28)
      have hji29w : (IntKind.i64.wrap (64 + t242)) = ji29 := (i64_w _).trans hji29
      by_cases c30 : 0 ≤ (ji29)
      ·rw [if_pos c30] at H
       have c30b0 := eq_true c30
       have c30b1 : decide (0 ≤ (ji29)) = true := decide_eq_true c30
       clear c30
       by_cases c31 : (ji29 : Int).toNat ≤ 35184372088832
       ·rw [if_pos c31] at H
        have c31b0 := eq_true c31
        have c31b1 : decide ((ji29 : Int).toNat ≤ 35184372088832) = true := decide_eq_true c31
        clear c31
        obtain ⟨y245, hy245⟩ : ∃ y_ : List Int, y_ = (List.replicate (ji29 : Int).toNat 0) := ⟨_, rfl⟩
        replace H : (some (y245, t243, t244)) = some (r1, r2, r3) := by first | (rw [hy245]; with_reducible exact H) | (have H2_ := (Option.bind_some _ _).symm.trans H; rw [hy245]; with_reducible exact H2_) | (have H2_ := (Option.bind_some _ _).symm.trans H; with_reducible exact H2_) | with_reducible exact H | (rw [hy245]; exact H) | exact H
        have Ny245 := Aside0.mk hy245
        clear hy245
        simp only [Option.some.injEq, Prod.mk.injEq] at H
        obtain ⟨rfl, rfl, rfl⟩ := H
        go_wp2_with (first | ((with_reducible refine gate_callee (f := 157) rfl ?_); refine goesLS_ (some 33) Try.func157 #[.pointer (some ⟨g, 0, none⟩), .int .i64 16] ?_; (with_reducible refine (spec_l1Cur_pick.calls g s0_0 x1001_1 x1002_1 16 t230 t231 t232 w0 _ ?side1 ?side2 A17.out).mono ?_); (case side1 => repeat (first | (with_reducible first | exact HI0.out | apply IsS90.alloc | apply IsS90.drewN | apply IsS90.drew | apply IsS90.set_1 | apply IsS90.set_2) | exact HI0.out)); (case side2 => repeat (first | (with_reducible first | exact HB.out | apply below_alloc | apply pw_below_drewN | apply below_drew1 | refine below_set ?_ (IsS90.ge HI0.out)) | exact HB.out)); rintro e w32 ⟨rfl, hi, hb, hk⟩; refine ⟨_, rfl, ?_⟩; have n0_ := Aside0.mk (Kd.R_mono (Kd.R_keep (IsS90.apart (show IsS90 w0 _ g s0_0 x1001_1 x1002_1 from by repeat (first | (with_reducible first | exact HI0.out | apply IsS90.alloc | apply IsS90.drewN | apply IsS90.drew | apply IsS90.set_1 | apply IsS90.set_2) | exact HI0.out)) (kr HO_7.out) (by decide)) hk (fun _ h => h.2)) (fun _ h => h.1)); have n1_ := Aside0.mk (KeepBut.trans (kk0 HK.out) hk (.inl rfl)); have n2_ := Aside0.mk (hb); have n3_ := Aside0.mk (hi); clear HO_7; clear HK; clear HB; clear HI0; have HO_7 := n0_; have HK := n1_; have HB := n2_; have HI0 := n3_; clear n0_ n1_ n2_ n3_; (try clear hb); (try clear hb2); (try clear hk); (try clear hi)) | ((with_reducible refine gate_callee (f := 157) rfl ?_); refine goesLS_ (some 45) Try.func157 #[.pointer (some ⟨g, 0, none⟩), .int .i64 2] ?_; (with_reducible refine (spec_l1Cur_pick.calls g s0_0 t231 t232 2 t242 t243 t244 w0 _ ?side1 ?side2 A28.out).mono ?_); (case side1 => repeat (first | (with_reducible first | exact HI0.out | apply IsS90.alloc | apply IsS90.drewN | apply IsS90.drew | apply IsS90.set_1 | apply IsS90.set_2) | exact HI0.out)); (case side2 => repeat (first | (with_reducible first | exact HB.out | apply below_alloc | apply pw_below_drewN | apply below_drew1 | refine below_set ?_ (IsS90.ge HI0.out)) | exact HB.out)); rintro e w33 ⟨rfl, hi, hb, hk⟩; refine ⟨_, rfl, ?_⟩; have n0_ := Aside0.mk (Kd.R_mono (Kd.R_keep (IsS90.apart (show IsS90 w0 _ g s0_0 t231 t232 from by repeat (first | (with_reducible first | exact HI0.out | apply IsS90.alloc | apply IsS90.drewN | apply IsS90.drew | apply IsS90.set_1 | apply IsS90.set_2) | exact HI0.out)) (kr HO_7.out) (by decide)) hk (fun _ h => h.2)) (fun _ h => h.1)); have n1_ := Aside0.mk (KeepBut.trans (kk0 HK.out) hk (.inl rfl)); have n2_ := Aside0.mk (hb); have n3_ := Aside0.mk (hi); clear HO_7; clear HK; clear HB; clear HI0; have HO_7 := n0_; have HK := n1_; have HB := n2_; have HI0 := n3_; clear n0_ n1_ n2_ n3_; (try clear hb); (try clear hb2); (try clear hk); (try clear hi)) | ((with_reducible refine gate_dst (N := 47) rfl ?_); refine Kd.R_make (Kd.int .i64) _ 3 rfl (N := 47) rfl 28 _ _ rfl ji29 rfl rfl Try.underlying28 (.int .i64 0) 8 info3 rfl (by decide) (by omega) 0 (ok := fun _ => True) (okp := fun _ => True) rfl (fun _ hk => hk) trivial (of_decide_eq_true (by first | (with_reducible assumption) | assumption)) (Nat.le_trans (Nat.mul_le_mul_right _ (of_decide_eq_true (by first | (with_reducible assumption) | assumption) : ji29.toNat ≤ 35184372088832)) (by omega)) (Below.refl _ _) (Nat.le_refl _) ?_; intro v246 w34 ho35 hb hg_ hnew_; clear hg_ hnew_; (first | rw [← Ny245.out] at ho35 | (simp only [Int.reduceToNat] at ho35; rw [← Ny245.out] at ho35)); have n0_ := Aside0.mk (Kd.R_elder' (kr HO_7.out) (Kd.R_base ho35) hb); have n1_ := Aside0.mk (Kd.R_lower (Kd.R_new' ho35 (Kd.R_lt (kr HO_7.out))) (keep_size (w := w) (g := g) (row := none) (kk0 HK.out))); have n2_ := Aside0.mk (IsS90.below (by repeat (first | (with_reducible first | exact HI0.out | apply IsS90.alloc | apply IsS90.drewN | apply IsS90.drew | apply IsS90.set_1 | apply IsS90.set_2) | exact HI0.out)) hb); have n3_ := Aside0.mk (KeepBut.trans (kk0 HK.out) (KeepBut.of_below hb g none) (.inl rfl)); have n4_ := Aside0.mk (below_step (bl1 HB.out (IsS90.ge HI0.out)) hb); clear HO_7; clear HI0; clear HK; clear HB; have HO_7 := n0_; have HO247 := n1_; have HI0 := n2_; have HK := n3_; have HB := n4_; clear n0_ n1_ n2_ n3_ n4_; clear hb ho35))
        go_ret
        exact ⟨_, by first | rfl | (simp [errW_none, errW_some] <;> rfl) | (simp only [← hji29]; first | rfl | (simp [errW_none, errW_some] <;> rfl)) | (simp [*, errW_none, errW_some] <;> rfl), by (with_reducible repeat (first | apply Kd.R_alloc | apply Kd.R_drewN | apply Kd.R_drew)); exact Kd.R_mono HO247.out (fun _ hk => trivial), by repeat (first | (with_reducible first | exact HI0.out | apply IsS90.alloc | apply IsS90.drewN | apply IsS90.drew | apply IsS90.set_1 | apply IsS90.set_2) | exact HI0.out), bl1 HB.out (IsS90.ge HI0.out), kk0 HK.out⟩
       ·rw [if_neg c31] at H
        exact absurd H (by simp)
      ·rw [if_neg c30] at H
       exact absurd H (by simp)
     ·rw [if_neg c27] at H
      have c27b0 : (t230 == 1) = false := beq_eq_false_iff_ne.mpr c27
      have c27b1 : (t230 != 1) = true := bne_iff_ne.mpr c27
      simp only [Option.some.injEq, Prod.mk.injEq] at H
      obtain ⟨rfl, rfl, rfl⟩ := H
      go_wp2_with (first | ((with_reducible refine gate_callee (f := 157) rfl ?_); refine goesLS_ (some 33) Try.func157 #[.pointer (some ⟨g, 0, none⟩), .int .i64 16] ?_; (with_reducible refine (spec_l1Cur_pick.calls g s0_0 x1001_1 x1002_1 16 t230 t231 t232 w0 _ ?side1 ?side2 A17.out).mono ?_); (case side1 => repeat (first | (with_reducible first | exact HI0.out | apply IsS90.alloc | apply IsS90.drewN | apply IsS90.drew | apply IsS90.set_1 | apply IsS90.set_2) | exact HI0.out)); (case side2 => repeat (first | (with_reducible first | exact HB.out | apply below_alloc | apply pw_below_drewN | apply below_drew1 | refine below_set ?_ (IsS90.ge HI0.out)) | exact HB.out)); rintro e w36 ⟨rfl, hi, hb, hk⟩; refine ⟨_, rfl, ?_⟩; have n0_ := Aside0.mk (Kd.R_mono (Kd.R_keep (IsS90.apart (show IsS90 w0 _ g s0_0 x1001_1 x1002_1 from by repeat (first | (with_reducible first | exact HI0.out | apply IsS90.alloc | apply IsS90.drewN | apply IsS90.drew | apply IsS90.set_1 | apply IsS90.set_2) | exact HI0.out)) (kr HO_7.out) (by decide)) hk (fun _ h => h.2)) (fun _ h => h.1)); have n1_ := Aside0.mk (KeepBut.trans (kk0 HK.out) hk (.inl rfl)); have n2_ := Aside0.mk (hb); have n3_ := Aside0.mk (hi); clear HO_7; clear HK; clear HB; clear HI0; have HO_7 := n0_; have HK := n1_; have HB := n2_; have HI0 := n3_; clear n0_ n1_ n2_ n3_; (try clear hb); (try clear hb2); (try clear hk); (try clear hi)))
      go_ret
      exact ⟨_, by first | rfl | (simp [errW_none, errW_some] <;> rfl) | (simp [*, errW_none, errW_some] <;> rfl), kr HO_7.out, by repeat (first | (with_reducible first | exact HI0.out | apply IsS90.alloc | apply IsS90.drewN | apply IsS90.drew | apply IsS90.set_1 | apply IsS90.set_2) | exact HI0.out), bl1 HB.out (IsS90.ge HI0.out), kk0 HK.out⟩

/-! ### spec_DrawExactFirst: function 8 -/
def spec_DrawExactFirst.f (k : Nat) (l0 : List Int) : Option (Int × Int × Int × Int × Bool × Int × List Int) := (spec_l1Cur_first.f l0 0 0 9).bind fun bt250 => ((spec_l1Cur_inWord.f k l0 bt250.2.2.2.2.2.1 bt250.2.2.2.2.2.2 bt250.2.2.2.1 bt250.2.2.2.2.1).bind fun bt258 => ((spec_l1Cur_signal.f k l0 bt258.2.1 bt258.2.2 7 9).bind fun bt261 => (some (bt250.1, bt250.2.1, bt250.2.2.1, bt250.2.2.2.1, bt250.2.2.2.2.1, bt258.1, bt261.1))))

def spec_DrawExactFirst.T3 : Bool × List (List Nat × List Nat) := (true, [([], []), ([], []), ([], []), ([2], [2]), ([1, 3], [1, 3]), ([], []), ([5, 4], [5]), ([0, 6, 0], [0]), ([4, 7, 0, 1, 2, 3, 4, 7], [4]), ([6, 8, 0, 1, 2, 3, 4, 5, 6, 7, 8], [6])])
def spec_DrawExactFirst.B3 : List Nat := [0, 0, 0, 4, 14, 0, 62, 127, 255, 511]
theorem spec_DrawExactFirst.tab3 : rtab .any (opsOf Try.f8 3) = spec_DrawExactFirst.T3 := by kernel_rfl
theorem spec_DrawExactFirst.bits3 : waitsOk spec_DrawExactFirst.T3.2 spec_DrawExactFirst.B3 = true := by kernel_rfl
set_option maxHeartbeats 80000000 in
set_option maxRecDepth 100000 in
theorem spec_DrawExactFirst.calls (k : Nat) (A0 : Option Addr) (c0 : Nat) (l0 : List Int) (r1 : Int) (r2 : Int) (r3 : Int) (r4 : Int) (r5 : Bool) (r6 : Int) (r7 : List Int) (w : World) (hr0 : Kd.C (Kd.int .u8) w A0 l0.length l0) (hc0 : l0.length ≤ c0) (h : spec_DrawExactFirst.f k l0 = some (r1, r2, r3, r4, r5, r6, r7)) :
  Calls Try.prog 8 #[.slice A0 l0.length c0] w fun e w' => ∃ v6_ : Value, e = .returned (.tuple #[.agg #[.int .i64 r1, .int .i64 r2, .int .i64 r3, .int .i64 r4, .bool r5], .int .i64 r6, v6_]) ∧ Kd.R (Kd.int .i64) 3 w' w.heap.size (fun _ => True) v6_ r7 ∧ Below w.heap.size w w' := by
 have hu27 := Try.underlying27
 have hu90 := Try.underlying90
 have hu25 := Try.underlying25
 have HR0 := Aside0.mk hr0
 have HC0 := Aside0.mk hc0
 clear hr0 hc0
 have HB := Aside0.mk (Below.refl w.heap.size w)
 have H : ((spec_l1Cur_first.f l0 0 0 9).bind fun bt250 => ((spec_l1Cur_inWord.f k l0 bt250.2.2.2.2.2.1 bt250.2.2.2.2.2.2 bt250.2.2.2.1 bt250.2.2.2.2.1).bind fun bt258 => ((spec_l1Cur_signal.f k l0 bt258.2.1 bt258.2.2 7 9).bind fun bt261 => (some (bt250.1, bt250.2.1, bt250.2.2.1, bt250.2.2.2.1, bt250.2.2.2.2.1, bt258.1, bt261.1))))) = some (r1, r2, r3, r4, r5, r6, r7) := h
 clear h
 replace H := Option.bind_eq_some_iff.mp H
 obtain ⟨⟨t250, t251, t252, t253, t254, t255, t256⟩, A20, H⟩ := H
 (try dsimp only at H)
 have A2 := Aside0.mk A20
 clear A20
 replace H := Option.bind_eq_some_iff.mp H
 obtain ⟨⟨t258, t259, t260⟩, A30, H⟩ := H
 (try dsimp only at H)
 have A3 := Aside0.mk A30
 clear A30
 replace H := Option.bind_eq_some_iff.mp H
 obtain ⟨⟨t261, t264, t265⟩, A40, H⟩ := H
 (try dsimp only at H)
 have A4 := Aside0.mk A40
 clear A40
 simp only [Option.some.injEq, Prod.mk.injEq] at H
 obtain ⟨rfl, rfl, rfl, rfl, rfl, rfl, rfl⟩ := H
 go_enter Try.func8, Try.ntmps8
 try go_wp2_with (first | ((with_reducible refine gate_dst (N := 2) rfl ?_); refine boxS_ 2 (#[.int .i64 0, .int .i64 0, .int .i64 0, .int .i64 0, .bool false]) 27 ?_; intro gb248 hg w5 hbox hb; have n0_ := Aside0.mk (below_step (bl0 HB.out) hb); have n1_ := Aside0.mk (hbox); have n2_ := Aside0.mk ((by rw [hg]; exact (below_size (bl0 HB.out)) : w.heap.size ≤ gb248)); have n3_ := Aside0.mk ((by rw [hg]; exact (below_size (bl0 HB.out)) : w.heap.size ≤ gb248)); clear HB; have HB := n0_; have BK248 := n1_; have GW248 := n2_; have GE248 := n3_; clear n0_ n1_ n2_ n3_; clear hb hbox hg) | ((with_reducible refine gate_dst (N := 9) rfl ?_); refine boxS_ 9 (#[.slice A0 l0.length c0, .int .i64 0, .int .u64 0]) 90 ?_; intro gb249 hg w6 hbox hb; have n0_ := Aside0.mk (blk_below (g := gb248) (o := .cells #[.int .i64 0, .int .i64 0, .int .i64 0, .int .i64 0, .bool false] 27 (0, 0)) (kb BK248.out) hb); have n1_ := Aside0.mk (below_step (bl1 HB.out GE248.out) hb); have n2_ := Aside0.mk ((show IsS90 w w6 gb249 l0 0 0 from ⟨_, _, hbox, (by rw [hg]; exact (below_size (bl1 HB.out GE248.out)) : w.heap.size ≤ gb249), HR0.out⟩)); have n3_ := Aside0.mk ((by rw [hg]; exact Nat.ne_of_lt (blk_lt (g := gb248) (o := .cells #[.int .i64 0, .int .i64 0, .int .i64 0, .int .i64 0, .bool false] 27 (0, 0)) (kb BK248.out)) : gb248 ≠ gb249)); have n4_ := Aside0.mk ((by rw [hg]; exact Nat.ne_of_gt (blk_lt (g := gb248) (o := .cells #[.int .i64 0, .int .i64 0, .int .i64 0, .int .i64 0, .bool false] 27 (0, 0)) (kb BK248.out)) : gb249 ≠ gb248)); clear BK248; clear HB; have BK248 := n0_; have HB := n1_; have HI249 := n2_; have NB248_249 := n3_; have NB249_248 := n4_; clear n0_ n1_ n2_ n3_ n4_; clear hb hbox hg) | ((with_reducible refine gate_callee (f := 80) rfl ?_); refine goesLS_ (some 11) Try.func80 #[.pointer (some ⟨gb249, 0, none⟩), .int .i64 9] ?_; (with_reducible refine (spec_l1Cur_first.calls gb249 l0 0 0 9 t250 t251 t252 t253 t254 t255 t256 w _ ?side1 ?side2 A2.out).mono ?_); (case side1 => repeat (first | (with_reducible first | exact HI249.out | apply IsS90.alloc | apply IsS90.drewN | apply IsS90.drew | apply IsS90.set_1 | apply IsS90.set_2 | refine IsS90.far ?_ NB249_248.out _) | exact HI249.out)); (case side2 => repeat (first | (with_reducible first | exact HB.out | apply below_alloc | apply pw_below_drewN | apply below_drew1 | refine below_set ?_ (IsS90.ge HI249.out) | refine below_set ?_ GE248.out) | exact HB.out)); rintro e w7 ⟨rfl, hi, hb, hk⟩; refine ⟨_, rfl, ?_⟩; have n0_ := Aside0.mk (KeepBut.blk hk (g' := gb248) (o := .cells #[.int .i64 0, .int .i64 0, .int .i64 0, .int .i64 0, .bool false] 27 (0, 0)) (kb BK248.out) NB248_249.out (by simp)); have n1_ := Aside0.mk (hb); have n2_ := Aside0.mk (hi); clear BK248; clear HB; clear HI249; have BK248 := n0_; have HB := n1_; have HI249 := n2_; clear n0_ n1_ n2_; (try clear hb); (try clear hb2); (try clear hk); (try clear hi)) | ((with_reducible refine gate_dst (N := 6) rfl ?_); refine boxS_ 6 (#[.int .i64 0, .int .i64 0, .int .i64 0, .int .i64 0, .bool false]) 27 ?_; intro gb257 hg w8 hbox hb; have n0_ := Aside0.mk (blk_below (g := gb248) (o := .cells #[.int .i64 0, .int .i64 0, .int .i64 0, .int .i64 0, .bool false] 27 (0, 0)) (kb BK248.out) hb); have n1_ := Aside0.mk (IsS90.below (by repeat (first | (with_reducible first | exact HI249.out | apply IsS90.alloc | apply IsS90.drewN | apply IsS90.drew | apply IsS90.set_1 | apply IsS90.set_2 | refine IsS90.far ?_ NB249_248.out _) | exact HI249.out)) hb); have n2_ := Aside0.mk (below_step (bl2 HB.out (IsS90.ge HI249.out) GE248.out) hb); have n3_ := Aside0.mk (hbox); have n4_ := Aside0.mk ((by rw [hg]; exact (below_size (bl2 HB.out (IsS90.ge HI249.out) GE248.out)) : w.heap.size ≤ gb257)); have n5_ := Aside0.mk ((by rw [hg]; exact (below_size (bl2 HB.out (IsS90.ge HI249.out) GE248.out)) : w.heap.size ≤ gb257)); have n6_ := Aside0.mk ((by rw [hg]; exact Nat.ne_of_lt (blk_lt (g := gb248) (o := .cells #[.int .i64 0, .int .i64 0, .int .i64 0, .int .i64 0, .bool false] 27 (0, 0)) (kb BK248.out)) : gb248 ≠ gb257)); have n7_ := Aside0.mk ((by rw [hg]; exact Nat.ne_of_gt (blk_lt (g := gb248) (o := .cells #[.int .i64 0, .int .i64 0, .int .i64 0, .int .i64 0, .bool false] 27 (0, 0)) (kb BK248.out)) : gb257 ≠ gb248)); have n8_ := Aside0.mk ((by rw [hg]; exact Nat.ne_of_lt (IsS90.lt (show IsS90 w _ gb249 l0 t255 t256 from by repeat (first | (with_reducible first | exact HI249.out | apply IsS90.alloc | apply IsS90.drewN | apply IsS90.drew | apply IsS90.set_1 | apply IsS90.set_2 | refine IsS90.far ?_ NB249_248.out _) | exact HI249.out))) : gb249 ≠ gb257)); have n9_ := Aside0.mk ((by rw [hg]; exact Nat.ne_of_gt (IsS90.lt (show IsS90 w _ gb249 l0 t255 t256 from by repeat (first | (with_reducible first | exact HI249.out | apply IsS90.alloc | apply IsS90.drewN | apply IsS90.drew | apply IsS90.set_1 | apply IsS90.set_2 | refine IsS90.far ?_ NB249_248.out _) | exact HI249.out))) : gb257 ≠ gb249)); clear BK248; clear HI249; clear HB; have BK248 := n0_; have HI249 := n1_; have HB := n2_; have BK257 := n3_; have GW257 := n4_; have GE257 := n5_; have NB248_257 := n6_; have NB257_248 := n7_; have NB249_257 := n8_; have NB257_249 := n9_; clear n0_ n1_ n2_ n3_ n4_ n5_ n6_ n7_ n8_ n9_; clear hb hbox hg; have hnb9 := NB257_248.out; have hnc9 := NB248_257.out; have hnb10 := NB257_249.out; have hnc10 := NB249_257.out; obtain ⟨hcz11_0, hcz11_1, hcz11_2, hcz11_3, hcz11_4, hfz11_0, hfz11_1, hfz11_2, hfz11_3, hfz11_4⟩ := cz5 BK257.out))
 have n0_ : Aside0 ((((((w8.setCell ⟨gb257, 0, none⟩ (.int .i64 t250)).setCell ⟨gb257, 1, none⟩ (.int .i64 t251)).setCell ⟨gb257, 2, none⟩ (.int .i64 t252)).setCell ⟨gb257, 3, none⟩ (.int .i64 t253)).setCell ⟨gb257, 4, none⟩ (.bool t254)).heap[gb248]? = some (.cells #[.int .i64 0, .int .i64 0, .int .i64 0, .int .i64 0, .bool false] 27 (0, 0))) := ⟨by (with_reducible repeat (first | refine blk_drewN ?_ _ | refine blk_drew ?_ | refine blk_alloc ?_ _)); refine blk_far ?_ NB248_257.out _; (with_reducible repeat (first | refine blk_drewN ?_ _ | refine blk_drew ?_ | refine blk_alloc ?_ _)); refine blk_far ?_ NB248_257.out _; (with_reducible repeat (first | refine blk_drewN ?_ _ | refine blk_drew ?_ | refine blk_alloc ?_ _)); refine blk_far ?_ NB248_257.out _; (with_reducible repeat (first | refine blk_drewN ?_ _ | refine blk_drew ?_ | refine blk_alloc ?_ _)); refine blk_far ?_ NB248_257.out _; (with_reducible repeat (first | refine blk_drewN ?_ _ | refine blk_drew ?_ | refine blk_alloc ?_ _)); refine blk_far ?_ NB248_257.out _; (with_reducible repeat (first | refine blk_drewN ?_ _ | refine blk_drew ?_ | refine blk_alloc ?_ _)); exact BK248.out⟩
 have n1_ : Aside0 ((((((w8.setCell ⟨gb257, 0, none⟩ (.int .i64 t250)).setCell ⟨gb257, 1, none⟩ (.int .i64 t251)).setCell ⟨gb257, 2, none⟩ (.int .i64 t252)).setCell ⟨gb257, 3, none⟩ (.int .i64 t253)).setCell ⟨gb257, 4, none⟩ (.bool t254)).heap[gb257]? = some (.cells #[.int .i64 t250, .int .i64 t251, .int .i64 t252, .int .i64 t253, .bool t254] 27 (0, 0))) := ⟨by (with_reducible repeat (first | refine blk_drewN ?_ _ | refine blk_drew ?_ | refine blk_alloc ?_ _)); refine blk_put (cs := #[.int .i64 t250, .int .i64 t251, .int .i64 t252, .int .i64 t253, .bool false]) ?_ 4 _ rfl; (with_reducible repeat (first | refine blk_drewN ?_ _ | refine blk_drew ?_ | refine blk_alloc ?_ _)); refine blk_put (cs := #[.int .i64 t250, .int .i64 t251, .int .i64 t252, .int .i64 0, .bool false]) ?_ 3 _ rfl; (with_reducible repeat (first | refine blk_drewN ?_ _ | refine blk_drew ?_ | refine blk_alloc ?_ _)); refine blk_put (cs := #[.int .i64 t250, .int .i64 t251, .int .i64 0, .int .i64 0, .bool false]) ?_ 2 _ rfl; (with_reducible repeat (first | refine blk_drewN ?_ _ | refine blk_drew ?_ | refine blk_alloc ?_ _)); refine blk_put (cs := #[.int .i64 t250, .int .i64 0, .int .i64 0, .int .i64 0, .bool false]) ?_ 1 _ rfl; (with_reducible repeat (first | refine blk_drewN ?_ _ | refine blk_drew ?_ | refine blk_alloc ?_ _)); refine blk_put (cs := #[.int .i64 0, .int .i64 0, .int .i64 0, .int .i64 0, .bool false]) ?_ 0 _ rfl; (with_reducible repeat (first | refine blk_drewN ?_ _ | refine blk_drew ?_ | refine blk_alloc ?_ _)); exact BK257.out⟩
 have n2_ : Aside0 (IsS90 w (((((w8.setCell ⟨gb257, 0, none⟩ (.int .i64 t250)).setCell ⟨gb257, 1, none⟩ (.int .i64 t251)).setCell ⟨gb257, 2, none⟩ (.int .i64 t252)).setCell ⟨gb257, 3, none⟩ (.int .i64 t253)).setCell ⟨gb257, 4, none⟩ (.bool t254)) gb249 l0 t255 t256) := ⟨by repeat (first | (with_reducible first | exact HI249.out | apply IsS90.alloc | apply IsS90.drewN | apply IsS90.drew | apply IsS90.set_1 | apply IsS90.set_2 | refine IsS90.far ?_ NB249_248.out _ | refine IsS90.far ?_ NB249_257.out _) | exact HI249.out)⟩
 have n3_ : Aside0 (Below w.heap.size w (((((w8.setCell ⟨gb257, 0, none⟩ (.int .i64 t250)).setCell ⟨gb257, 1, none⟩ (.int .i64 t251)).setCell ⟨gb257, 2, none⟩ (.int .i64 t252)).setCell ⟨gb257, 3, none⟩ (.int .i64 t253)).setCell ⟨gb257, 4, none⟩ (.bool t254))) := ⟨bl3 HB.out (IsS90.ge HI249.out) GE248.out GE257.out⟩
 (try clear BK248)
 (try clear BK257)
 (try clear HI249)
 (try clear HB)
 generalize (((((w8.setCell ⟨gb257, 0, none⟩ (.int .i64 t250)).setCell ⟨gb257, 1, none⟩ (.int .i64 t251)).setCell ⟨gb257, 2, none⟩ (.int .i64 t252)).setCell ⟨gb257, 3, none⟩ (.int .i64 t253)).setCell ⟨gb257, 4, none⟩ (.bool t254)) = w12 at n0_ n1_ n2_ n3_ ⊢
 have BK248 := n0_
 have BK257 := n1_
 have HI249 := n2_
 have HB := n3_
 clear n0_ n1_ n2_ n3_
 have n0_ := Aside0.mk (blk_drew BK248.out)
 have n1_ := Aside0.mk (blk_drew BK257.out)
 have n2_ := Aside0.mk (IsS90.drew HI249.out)
 have n3_ := Aside0.mk (below_drew1 HB.out)
 clear BK248
 clear BK257
 clear HI249
 clear HB
 have BK248 := n0_
 have BK257 := n1_
 have HI249 := n2_
 have HB := n3_
 clear n0_ n1_ n2_ n3_
 refine start_ (n := 10) (S := fun w' => w'.cell? ⟨gb257, 0, none⟩ = some (.int .i64 t250) ∧ w'.cell? ⟨gb257, 1, none⟩ = some (.int .i64 t251) ∧ w'.cell? ⟨gb257, 2, none⟩ = some (.int .i64 t252) ∧ w'.cell? ⟨gb257, 3, none⟩ = some (.int .i64 t253) ∧ w'.cell? ⟨gb257, 4, none⟩ = some (.bool t254)) (ds := []) (bm 10 0) (by kernel_rfl) rfl rfl ⟨(blk_cell BK257.out 0).trans rfl, (blk_cell BK257.out 1).trans rfl, (blk_cell BK257.out 2).trans rfl, (blk_cell BK257.out 3).trans rfl, (blk_cell BK257.out 4).trans rfl⟩ (fun hHeld => ?_); refine with_tabW spec_DrawExactFirst.tab3 spec_DrawExactFirst.bits3 (fun HT_ HW_ => ?_)
 generalize w12.drew = w13 at BK248 BK257 HI249 HB hHeld ⊢
 refine pureT_ 1 13 (bm 10 2) HT_.out ?_
 refine pureT_ 2 14 (bm 10 6) HT_.out ?_
 refine pureT_ 5 17 (bm 10 38) HT_.out ?_
 refine take_ (i := 0) (N := some 12) (v := ?_) (a' := ?_) (bm 10 39) rfl rfl (take_ofW HT_.out HW_.out (by kernel_rfl)) (fun _ _ _ h => h) (Or.inl ⟨by rfl, ?_⟩) hHeld ?_ ?_
 rotate_left
 ·rintro w' ⟨s0, s1, s2, s3, s4⟩
  go_simp
  with_reducible rfl
 rotate_left
 ·simp only [Act.put, List.setIfInBounds_toArray, List.set_cons_zero, List.set_cons_succ, i64_w, i32_w]
  rfl
 refine take_ (i := 3) (N := some 15) (v := ?_) (a' := ?_) (bm 10 47) rfl rfl (take_ofW HT_.out HW_.out (by kernel_rfl)) (fun _ _ _ h => h) (Or.inl ⟨by rfl, ?_⟩) hHeld ?_ ?_
 rotate_left
 ·rintro w' ⟨s0, s1, s2, s3, s4⟩
  go_simp
  with_reducible rfl
 rotate_left
 ·simp only [Act.put, List.setIfInBounds_toArray, List.set_cons_zero, List.set_cons_succ, i64_w, i32_w]
  rfl
 refine one_ (i := 4) (N := some 16) (bm 10 63) rfl rfl (one_of HT_.out (by kernel_rfl)) (by decide) (fun K hK => ?_)
 refine goesS_ Try.func81 #[.pointer (some ⟨gb249, 0, none⟩), .agg #[.int .i64 t253, .bool t254]] ?_
 with_reducible refine (spec_l1Cur_inWord.calls k gb249 l0 t255 t256 t253 t254 t258 t259 t260 w _ ?side1 ?side2 A3.out).mono ?_
 (case side1 => repeat (first | (with_reducible first | exact HI249.out | apply IsS90.alloc | apply IsS90.drewN | apply IsS90.drew | apply IsS90.set_1 | apply IsS90.set_2 | refine IsS90.far ?_ NB249_248.out _ | refine IsS90.far ?_ NB249_257.out _) | exact HI249.out))
 (case side2 => repeat (first | (with_reducible first | exact HB.out | apply below_alloc | apply pw_below_drewN | apply below_drew1 | refine below_set ?_ (IsS90.ge HI249.out) | refine below_set ?_ GE248.out | refine below_set ?_ GE257.out) | exact HB.out))
 rintro e w14 ⟨rfl, hi, hb, hk⟩
 refine ⟨_, rfl, ?_⟩
 have n0_ := Aside0.mk (KeepBut.blk hk (g' := gb248) (o := .cells #[.int .i64 0, .int .i64 0, .int .i64 0, .int .i64 0, .bool false] 27 (0, 0)) (kb BK248.out) NB248_249.out (by simp))
 have n1_ := Aside0.mk (KeepBut.blk hk (g' := gb257) (o := .cells #[.int .i64 t250, .int .i64 t251, .int .i64 t252, .int .i64 t253, .bool t254] 27 (0, 0)) (kb BK257.out) NB257_249.out (by simp))
 have n2_ := Aside0.mk (hb)
 have n3_ := Aside0.mk (hi)
 clear BK248
 clear BK257
 clear HB
 clear HI249
 have BK248 := n0_
 have BK257 := n1_
 have HB := n2_
 have HI249 := n3_
 clear n0_ n1_ n2_ n3_
 (try clear hb)
 (try clear hb2)
 (try clear hk)
 (try clear hi)
 refine hK.out _ _ ⟨(blk_cell BK257.out 0).trans rfl, (blk_cell BK257.out 1).trans rfl, (blk_cell BK257.out 2).trans rfl, (blk_cell BK257.out 3).trans rfl, (blk_cell BK257.out 4).trans rfl⟩ (fun hHeld => ?_)
 clear hK K
 refine norm_ (a' := ?_) ?_ ?_
 rotate_left
 ·show Act.put _ (some 16) _ = _
  simp only [Act.put, List.setIfInBounds_toArray, List.set_cons_zero, List.set_cons_succ, i64_w, i32_w]
  rfl
 refine one_ (i := 6) (N := some 18) (bm 10 127) rfl rfl (one_of HT_.out (by kernel_rfl)) (by decide) (fun K hK => ?_)
 refine goesS_ Try.func82 #[.pointer (some ⟨gb249, 0, none⟩), .int .i64 7, .int .i64 9] ?_
 with_reducible refine (spec_l1Cur_signal.calls k gb249 l0 t259 t260 7 9 t261 t264 t265 w _ ?side1 ?side2 A4.out).mono ?_
 (case side1 => repeat (first | (with_reducible first | exact HI249.out | apply IsS90.alloc | apply IsS90.drewN | apply IsS90.drew | apply IsS90.set_1 | apply IsS90.set_2 | refine IsS90.far ?_ NB249_248.out _ | refine IsS90.far ?_ NB249_257.out _) | exact HI249.out))
 (case side2 => repeat (first | (with_reducible first | exact HB.out | apply below_alloc | apply pw_below_drewN | apply below_drew1 | refine below_set ?_ (IsS90.ge HI249.out) | refine below_set ?_ GE248.out | refine below_set ?_ GE257.out) | exact HB.out))
 rintro e w15 ⟨v262, rfl, ho0, hi, hb, hk⟩
 refine ⟨_, rfl, ?_⟩
 have n0_ := Aside0.mk (KeepBut.blk hk (g' := gb248) (o := .cells #[.int .i64 0, .int .i64 0, .int .i64 0, .int .i64 0, .bool false] 27 (0, 0)) (kb BK248.out) NB248_249.out (by simp))
 have n1_ := Aside0.mk (KeepBut.blk hk (g' := gb257) (o := .cells #[.int .i64 t250, .int .i64 t251, .int .i64 t252, .int .i64 t253, .bool t254] 27 (0, 0)) (kb BK257.out) NB257_249.out (by simp))
 have n2_ := Aside0.mk (Kd.R_lower ho0 (below_size (bl3 HB.out (IsS90.ge HI249.out) GE248.out GE257.out)))
 have n3_ := Aside0.mk (hb)
 have n4_ := Aside0.mk (hi)
 clear BK248
 clear BK257
 clear HB
 clear HI249
 have BK248 := n0_
 have BK257 := n1_
 have HO263 := n2_
 have HB := n3_
 have HI249 := n4_
 clear n0_ n1_ n2_ n3_ n4_
 (try clear hb)
 (try clear hb2)
 (try clear hk)
 (try clear hi)
 (try clear ho0)
 refine hK.out _ _ ⟨(blk_cell BK257.out 0).trans rfl, (blk_cell BK257.out 1).trans rfl, (blk_cell BK257.out 2).trans rfl, (blk_cell BK257.out 3).trans rfl, (blk_cell BK257.out 4).trans rfl⟩ (fun hHeld => ?_)
 clear hK K
 refine norm_ (a' := ?_) ?_ ?_
 rotate_left
 ·show Act.put _ (some 18) _ = _
  simp only [Act.put, List.setIfInBounds_toArray, List.set_cons_zero, List.set_cons_succ, i64_w, i32_w]
  rfl
 refine one_ (i := 7) (N := none) (bm 10 255) rfl rfl (one_of HT_.out (by kernel_rfl)) (by decide) (fun K hK => ?_)
 have hs16 : w15.cell? ⟨gb248, 0, none⟩ = some (.int .i64 0) := (blk_cell BK248.out 0).trans rfl
 have hfs16 := blk_frozen BK248.out 0
 have hns16_1 := NB257_248.out
 have hms16_1 := NB248_257.out
 have hs17 : w15.cell? ⟨gb248, 1, none⟩ = some (.int .i64 0) := (blk_cell BK248.out 1).trans rfl
 have hfs17 := blk_frozen BK248.out 1
 have hns17_1 := NB257_248.out
 have hms17_1 := NB248_257.out
 have hs18 : w15.cell? ⟨gb248, 2, none⟩ = some (.int .i64 0) := (blk_cell BK248.out 2).trans rfl
 have hfs18 := blk_frozen BK248.out 2
 have hns18_1 := NB257_248.out
 have hms18_1 := NB248_257.out
 have hs19 : w15.cell? ⟨gb248, 3, none⟩ = some (.int .i64 0) := (blk_cell BK248.out 3).trans rfl
 have hfs19 := blk_frozen BK248.out 3
 have hns19_1 := NB257_248.out
 have hms19_1 := NB248_257.out
 have hs20 : w15.cell? ⟨gb248, 4, none⟩ = some (.bool false) := (blk_cell BK248.out 4).trans rfl
 have hfs20 := blk_frozen BK248.out 4
 have hns20_1 := NB257_248.out
 have hms20_1 := NB248_257.out
 refine skip_ (w1 := ?_) (by rfl) rfl ?_ ?_
 rotate_left
 ·go_simp
  rfl
 refine hK.out _ _ ⟨((cell_far (p := ⟨gb248, _, none⟩) NB257_248.out _).trans (((cell_far (p := ⟨gb248, _, none⟩) NB257_248.out _).trans (((cell_far (p := ⟨gb248, _, none⟩) NB257_248.out _).trans (((cell_far (p := ⟨gb248, _, none⟩) NB257_248.out _).trans (((cell_far (p := ⟨gb248, _, none⟩) NB257_248.out _).trans (hHeld.1)))))))))), ((cell_far (p := ⟨gb248, _, none⟩) NB257_248.out _).trans (((cell_far (p := ⟨gb248, _, none⟩) NB257_248.out _).trans (((cell_far (p := ⟨gb248, _, none⟩) NB257_248.out _).trans (((cell_far (p := ⟨gb248, _, none⟩) NB257_248.out _).trans (((cell_far (p := ⟨gb248, _, none⟩) NB257_248.out _).trans (hHeld.2.1)))))))))), ((cell_far (p := ⟨gb248, _, none⟩) NB257_248.out _).trans (((cell_far (p := ⟨gb248, _, none⟩) NB257_248.out _).trans (((cell_far (p := ⟨gb248, _, none⟩) NB257_248.out _).trans (((cell_far (p := ⟨gb248, _, none⟩) NB257_248.out _).trans (((cell_far (p := ⟨gb248, _, none⟩) NB257_248.out _).trans (hHeld.2.2.1)))))))))), ((cell_far (p := ⟨gb248, _, none⟩) NB257_248.out _).trans (((cell_far (p := ⟨gb248, _, none⟩) NB257_248.out _).trans (((cell_far (p := ⟨gb248, _, none⟩) NB257_248.out _).trans (((cell_far (p := ⟨gb248, _, none⟩) NB257_248.out _).trans (((cell_far (p := ⟨gb248, _, none⟩) NB257_248.out _).trans (hHeld.2.2.2.1)))))))))), ((cell_far (p := ⟨gb248, _, none⟩) NB257_248.out _).trans (((cell_far (p := ⟨gb248, _, none⟩) NB257_248.out _).trans (((cell_far (p := ⟨gb248, _, none⟩) NB257_248.out _).trans (((cell_far (p := ⟨gb248, _, none⟩) NB257_248.out _).trans (((cell_far (p := ⟨gb248, _, none⟩) NB257_248.out _).trans (hHeld.2.2.2.2))))))))))⟩ (fun hHeld => ?_)
 clear hK K
 refine pureT_ 8 3 (bm 10 511) HT_.out ?_
 refine pureT_ 9 4 (bm 10 1023) HT_.out ?_
 refine done_ (done_of HT_.out (by kernel_rfl)) ?_
 try go_wp2
 refine bodyPost_ret (results_ctt rfl _ _ gb248 27 #[.int .i64 t250, .int .i64 t251, .int .i64 t252, .int .i64 t253, .bool t254] (0, 0) _ rfl (by (with_reducible repeat (first | refine blk_drewN ?_ _ | refine blk_drew ?_ | refine blk_alloc ?_ _)); refine blk_put (cs := #[.int .i64 t250, .int .i64 t251, .int .i64 t252, .int .i64 t253, .bool false]) ?_ 4 _ rfl; (with_reducible repeat (first | refine blk_drewN ?_ _ | refine blk_drew ?_ | refine blk_alloc ?_ _)); refine blk_put (cs := #[.int .i64 t250, .int .i64 t251, .int .i64 t252, .int .i64 0, .bool false]) ?_ 3 _ rfl; (with_reducible repeat (first | refine blk_drewN ?_ _ | refine blk_drew ?_ | refine blk_alloc ?_ _)); refine blk_put (cs := #[.int .i64 t250, .int .i64 t251, .int .i64 0, .int .i64 0, .bool false]) ?_ 2 _ rfl; (with_reducible repeat (first | refine blk_drewN ?_ _ | refine blk_drew ?_ | refine blk_alloc ?_ _)); refine blk_put (cs := #[.int .i64 t250, .int .i64 0, .int .i64 0, .int .i64 0, .bool false]) ?_ 1 _ rfl; (with_reducible repeat (first | refine blk_drewN ?_ _ | refine blk_drew ?_ | refine blk_alloc ?_ _)); refine blk_put (cs := #[.int .i64 0, .int .i64 0, .int .i64 0, .int .i64 0, .bool false]) ?_ 0 _ rfl; (with_reducible repeat (first | refine blk_drewN ?_ _ | refine blk_drew ?_ | refine blk_alloc ?_ _)); exact BK248.out) Try.underlying27 rfl (by kernel_rfl)) rfl ?_
 exact ⟨_, by first | rfl | (simp [errW_none, errW_some] <;> rfl) | (simp [*, errW_none, errW_some] <;> rfl), by (with_reducible repeat (first | apply Kd.R_alloc | apply Kd.R_drewN | apply Kd.R_drew)); exact Kd.R_mono (Kd.R_far (p := ⟨gb248, 4, none⟩) (Kd.R_far (p := ⟨gb248, 3, none⟩) (Kd.R_far (p := ⟨gb248, 2, none⟩) (Kd.R_far (p := ⟨gb248, 1, none⟩) (Kd.R_far (p := ⟨gb248, 0, none⟩) (Kd.R_types HO263.out BK248.out (by decide)) (fun _ hk => hk.2) (.int .i64 t250)) (fun _ hk => hk.2) (.int .i64 t251)) (fun _ hk => hk.2) (.int .i64 t252)) (fun _ hk => hk.2) (.int .i64 t253)) (fun _ hk => hk.2) (.bool t254)) (fun _ hk => trivial), bl3 HB.out (IsS90.ge HI249.out) GE248.out GE257.out⟩

/-! ### impl_in: function 111 -/
def impl_in.f (a0 : Int) (a1 : Int) (a2 : Int) : Option (Bool) := if a1 ≤ a0 then (some (decide (a0 ≤ a2))) else (some false)
set_option maxHeartbeats 80000000 in
set_option maxRecDepth 100000 in
theorem impl_in.calls (a0 : Int) (a1 : Int) (a2 : Int) (r : Bool) (w : World) (h : impl_in.f a0 a1 a2 = some r) :
  Calls Try.prog 111 #[.int .i64 a0, .int .i64 a1, .int .i64 a2] w fun e w' => e = .returned (.bool r) ∧ Drawn0 w w' := by
 have H : (if a1 ≤ a0 then (some (decide (a0 ≤ a2))) else (some false)) = some r := h
 clear h
 by_cases c4 : a1 ≤ a0
 ·rw [if_pos c4] at H
  have c4b0 : decide (a1 ≤ a0) = true := decide_eq_true c4
  clear c4
  obtain rfl := Option.some.inj H
  go_enter Try.func111, Try.ntmps111
  go_wp2
  go_ret
  exact ⟨by first | rfl | (simp; done) | (simp [*]; done), by repeat (first | exact Drawn0.refl _ | apply Drawn0.step)⟩
 ·rw [if_neg c4] at H
  have c4b0 : decide (a1 ≤ a0) = false := decide_eq_false c4
  clear c4
  obtain rfl := Option.some.inj H
  go_enter Try.func111, Try.ntmps111
  go_wp2
  go_ret
  exact ⟨by first | rfl | (simp; done) | (simp [*]; done), by repeat (first | exact Drawn0.refl _ | apply Drawn0.step)⟩

/-! ### impl_Word_ends: function 168 -/
def impl_Word_ends.f (a0_0 : Int) (a0_1 : Bool) : Option (Int × Int) := if 0 ≤ (wrap64 (a0_0 - 1)) then (some (wrap64 (-(shl .i64 1 (wrap64 (a0_0 - 1)))), wrap64 ((shl .i64 1 (wrap64 (a0_0 - 1))) - 1))) else (none)
set_option maxHeartbeats 80000000 in
set_option maxRecDepth 100000 in
theorem impl_Word_ends.calls (a0_0 : Int) (a0_1 : Bool) (r1 : Int) (r2 : Int) (w : World) (h : impl_Word_ends.f a0_0 a0_1 = some (r1, r2)) :
  Calls Try.prog 168 #[.agg #[.int .i64 a0_0, .bool a0_1]] w fun e w' => e = .returned (.tuple #[.int .i64 r1, .int .i64 r2]) ∧ Below w.heap.size w w' := by
 have hu25 := Try.underlying25
 have HB := Aside0.mk (Below.refl w.heap.size w)
 have H : (if 0 ≤ (wrap64 (a0_0 - 1)) then (some (wrap64 (-(shl .i64 1 (wrap64 (a0_0 - 1)))), wrap64 ((shl .i64 1 (wrap64 (a0_0 - 1))) - 1))) else (none)) = some (r1, r2) := h
 clear h
 obtain ⟨ji2, hji2⟩ : ∃ j_ : Int, (wrap64 (a0_0 - 1)) = j_ := ⟨_, rfl⟩
 replace H : (if 0 ≤ (ji2) then (some (wrap64 (-(shl .i64 1 (ji2))), wrap64 ((shl .i64 1 (ji2)) - 1))) else (none)) = some (r1, r2) := by first | (rw [hji2] at H; exact H) | (simp only [hji2] at H ⊢; exact H)
 have hji2w : (IntKind.i64.wrap (a0_0 - 1)) = ji2 := (i64_w _).trans hji2
 by_cases c3 : 0 ≤ (ji2)
 ·rw [if_pos c3] at H
  have c3b0 := eq_true c3
  have c3b1 : decide (0 ≤ (ji2)) = true := decide_eq_true c3
  clear c3
  obtain ⟨ji4, hji4⟩ : ∃ j_ : Int, (shl .i64 1 (ji2)) = j_ := ⟨_, rfl⟩
  replace H : (some (wrap64 (-(ji4)), wrap64 ((ji4) - 1))) = some (r1, r2) := by first | (rw [hji4] at H; exact H) | (simp only [hji4] at H ⊢; exact H)
  have hji4_ : (IntKind.i64.wrap (1 * 2 ^ min (ji2).toNat 64)) = ji4 := hji4
  have hji4z : (ji2) ≤ 64 → (IntKind.i64.wrap (1 * 2 ^ (ji2).toNat)) = ji4 := shl_small hji4
  have hji4u : (IntKind.i64.wrap (2 ^ min (ji2).toNat 64)) = ji4 := by have h_ := hji4_; rw [Int.one_mul] at h_; exact h_
  have hji4v : (ji2) ≤ 64 → (IntKind.i64.wrap (2 ^ (ji2).toNat)) = ji4 := fun hle_ => by have h_ := hji4z hle_; rw [Int.one_mul] at h_; exact h_
  have hji4y : (wrap64 (1 * 2 ^ min (ji2).toNat 64)) = ji4 := (i64_w _).symm.trans hji4_
  have hji4x : (ji2) ≤ 64 → (wrap64 (1 * 2 ^ (ji2).toNat)) = ji4 := fun h_ => (i64_w _).symm.trans (hji4z h_)
  simp only [Option.some.injEq, Prod.mk.injEq] at H
  obtain ⟨rfl, rfl⟩ := H
  go_enter Try.func168, Try.ntmps168
  go_wp2_with (first | ((with_reducible refine gate_dst (N := 1) rfl ?_); refine boxS_ 1 (#[.int .i64 a0_0, .bool a0_1]) 25 ?_; intro gb266 hg w5 hbox hb; have n0_ := Aside0.mk (below_step (bl0 HB.out) hb); have n1_ := Aside0.mk (hbox); have n2_ := Aside0.mk ((by rw [hg]; exact (below_size (bl0 HB.out)) : w.heap.size ≤ gb266)); have n3_ := Aside0.mk ((by rw [hg]; exact (below_size (bl0 HB.out)) : w.heap.size ≤ gb266)); clear HB; have HB := n0_; have BK266 := n1_; have GW266 := n2_; have GE266 := n3_; clear n0_ n1_ n2_ n3_; clear hb hbox hg; obtain ⟨hcz6_0, hcz6_1, hfz6_0, hfz6_1⟩ := cz2 BK266.out))
  go_ret2
  exact ⟨by first | rfl | (simp [errW_none, errW_some] <;> rfl) | (simp only [← hji2, ← hji4]; first | rfl | (simp [errW_none, errW_some] <;> rfl)) | (simp [*, errW_none, errW_some] <;> rfl), bl1 HB.out GE266.out⟩
 ·rw [if_neg c3] at H
  exact absurd H (by simp)

end Go.Proofs.Ytcekmdepalbnhaa.PFnFirstRuns
