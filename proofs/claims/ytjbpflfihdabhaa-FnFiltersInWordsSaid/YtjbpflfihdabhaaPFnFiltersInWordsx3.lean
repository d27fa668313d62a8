-- printed by a program of this claim's own
import Derived.Test.YtjbpflfihdabhaaPFnFiltersInWordsx0
import Derived.Test.YtjbpflfihdabhaaPFnFiltersInWordsx1
import Derived.Test.YtjbpflfihdabhaaPFnFiltersInWordsx2
namespace Go.Proofs.Ytjbpflfihdabhaa.PFnFiltersInWords
open Go.RowKit Go.Proofs.YtjbpflfihdabhaaW.PrintWords Go.Proofs.YtjbpflfihdabhaaW.PrintLast Go.Proofs.YtjbpflfihdabhaaW.PrintMore Go.Proofs.Ytjbpflfihdabhaa.Cuts
attribute [local go_sem] max2_int min2_int max_two min_two max_three min_three max_four min_four   -- for this text's walks alone
set_option linter.unusedVariables false
set_option linter.unusedSimpArgs false

/-! ### spec_DrawFilterInWord: function 28 -/
def spec_DrawFilterInWord.f (k : Nat) (l0 : List Int) : Option (Int × Bool × List Int × List Int × Int × Int) := (spec_l1Cur_filtered.f k l0 0 0).bind fun bt263 => ((spec_l1Cur_pick.f l0 bt263.2.2.2.2.1 bt263.2.2.2.2.2 4).bind fun bt274 => ((spec_l1Cur_mode.f l0 bt274.2.1 bt274.2.2).bind fun bt277 => (some (bt263.1, bt263.2.1, bt263.2.2.1, bt263.2.2.2.1, bt274.1, bt277.1))))

def spec_DrawFilterInWord.T3 : Bool × List (List Nat × List Nat) := (true, [([], []), ([], []), ([], []), ([], []), ([3], [3]), ([], []), ([5, 4], [5]), ([0, 6, 0], [0]), ([1, 7, 0, 1, 7], [1]), ([2, 8, 0, 1, 2, 7, 8], [2]), ([4, 9, 0, 1, 2, 3, 4, 7, 8, 9], [4]), ([6, 10, 0, 1, 2, 3, 4, 5, 6, 7, 8, 9, 10], [6])])
def spec_DrawFilterInWord.B3 : List Nat := [0, 0, 0, 0, 8, 0, 56, 121, 251, 511, 1023, 2047]
theorem spec_DrawFilterInWord.tab3 : rtab .any (opsOf Try.f28 3) = spec_DrawFilterInWord.T3 := by kernel_rfl
theorem spec_DrawFilterInWord.bits3 : waitsOk spec_DrawFilterInWord.T3.2 spec_DrawFilterInWord.B3 = true := by kernel_rfl
set_option maxHeartbeats 80000000 in
set_option maxRecDepth 100000 in
theorem spec_DrawFilterInWord.calls (k : Nat) (A0 : Option Addr) (c0 : Nat) (l0 : List Int) (r1 : Int) (r2 : Bool) (r3 : List Int) (r4 : List Int) (r5 : Int) (r6 : Int) (w : World) (hr0 : Kd.C (Kd.int .u8) w A0 l0.length l0) (hc0 : l0.length ≤ c0) (h : spec_DrawFilterInWord.f k l0 = some (r1, r2, r3, r4, r5, r6)) :
  Calls Try.prog 28 #[.slice A0 l0.length c0] w fun e w' => ∃ v2_ v3_ : Value, e = .returned (.tuple #[.agg #[.int .i64 r1, .bool r2], v2_, v3_, .int .i64 r5, .int .i64 r6]) ∧ Kd.R (Kd.int .i64) 3 w' w.heap.size (fun k_ => some k_ ≠ (v3_ : Value).ownBlock) v2_ r3 ∧ Kd.R (Kd.int .i64) 3 w' w.heap.size (fun k_ => some k_ ≠ (v2_ : Value).ownBlock) v3_ r4 ∧ Below w.heap.size w w' := by
 have hu44 := Try.underlying44
 have hu66 := Try.underlying66
 have HR0 := Aside0.mk hr0
 have HC0 := Aside0.mk hc0
 clear hr0 hc0
 have HB := Aside0.mk (Below.refl w.heap.size w)
 have H : ((spec_l1Cur_filtered.f k l0 0 0).bind fun bt263 => ((spec_l1Cur_pick.f l0 bt263.2.2.2.2.1 bt263.2.2.2.2.2 4).bind fun bt274 => ((spec_l1Cur_mode.f l0 bt274.2.1 bt274.2.2).bind fun bt277 => (some (bt263.1, bt263.2.1, bt263.2.2.1, bt263.2.2.2.1, bt274.1, bt277.1))))) = some (r1, r2, r3, r4, r5, r6) := h
 clear h
 replace H := Option.bind_eq_some_iff.mp H
 obtain ⟨⟨t263, t264, t265, t268, t271, t272⟩, A20, H⟩ := H
 replace H : ((spec_l1Cur_pick.f l0 t271 t272 4).bind fun bt274 => ((spec_l1Cur_mode.f l0 bt274.2.1 bt274.2.2).bind fun bt277 => (some (t263, t264, t265, t268, bt274.1, bt277.1)))) = some (r1, r2, r3, r4, r5, r6) := H
 have A2 := Aside0.mk A20
 clear A20
 replace H := Option.bind_eq_some_iff.mp H
 obtain ⟨⟨t274, t275, t276⟩, A30, H⟩ := H
 replace H : ((spec_l1Cur_mode.f l0 t275 t276).bind fun bt277 => (some (t263, t264, t265, t268, t274, bt277.1))) = some (r1, r2, r3, r4, r5, r6) := H
 have A3 := Aside0.mk A30
 clear A30
 replace H := Option.bind_eq_some_iff.mp H
 obtain ⟨⟨t277, t278, t279⟩, A40, H⟩ := H
 replace H : (some (t263, t264, t265, t268, t274, t277)) = some (r1, r2, r3, r4, r5, r6) := H
 have A4 := Aside0.mk A40
 clear A40
 simp only [Option.some.injEq, Prod.mk.injEq] at H
 obtain ⟨rfl, rfl, rfl, rfl, rfl, rfl⟩ := H
 go_enter Try.func28, Try.ntmps28
 try go_wp2_with (first | ((with_reducible refine gate_dst (N := 2) rfl ?_); refine box_event ?hg (N := 2) ?hd (cs := #[.int .i64 0, .bool false]) (t := 44) ?hr ?_; (case hd => rfl); (case hg => rfl); (case hr => first | (go_simp; done) | (go_simp; rfl)); intro gb261 hg w5 hbox hb; have n0_ := Aside0.mk (below_step (by repeat (first | (with_reducible first | exact HB.out | apply below_alloc | apply pw_below_drewN | apply below_drew1) | exact HB.out)) hb); have n1_ := Aside0.mk (hbox); have n2_ := Aside0.mk ((by rw [hg]; exact (below_size (by repeat (first | (with_reducible first | exact HB.out | apply below_alloc | apply pw_below_drewN | apply below_drew1) | exact HB.out))) : w.heap.size ≤ gb261)); have n3_ := Aside0.mk ((by rw [hg]; exact (below_size (by repeat (first | (with_reducible first | exact HB.out | apply below_alloc | apply pw_below_drewN | apply below_drew1) | exact HB.out))) : w.heap.size ≤ gb261)); clear HB; have HB := n0_; have BK261 := n1_; have GW261 := n2_; have GE261 := n3_; clear n0_ n1_ n2_ n3_; clear hb hbox hg) | ((with_reducible refine gate_dst (N := 13) rfl ?_); refine box_event ?hg (N := 13) ?hd (cs := #[.slice A0 l0.length c0, .int .i64 0, .int .u64 0]) (t := 66) ?hr ?_; (case hd => rfl); (case hg => rfl); (case hr => first | (go_simp; done) | (go_simp; rfl)); intro gb262 hg w6 hbox hb; have n0_ := Aside0.mk (blk_below (g := gb261) (o := .cells #[.int .i64 0, .bool false] 44 (0, 0)) (by (with_reducible repeat (first | refine blk_drewN ?_ _ | refine blk_drew ?_ | refine blk_alloc ?_ _)); exact BK261.out) hb); have n1_ := Aside0.mk (below_step (by repeat (first | (with_reducible first | exact HB.out | apply below_alloc | apply pw_below_drewN | apply below_drew1 | refine below_set ?_ GE261.out) | exact HB.out)) hb); have n2_ := Aside0.mk ((show IsS66 w w6 gb262 l0 0 0 from ⟨_, _, hbox, (by rw [hg]; exact (below_size (by repeat (first | (with_reducible first | exact HB.out | apply below_alloc | apply pw_below_drewN | apply below_drew1 | refine below_set ?_ GE261.out) | exact HB.out))) : w.heap.size ≤ gb262), HR0.out⟩)); have n3_ := Aside0.mk ((by rw [hg]; exact Nat.ne_of_lt (blk_lt (g := gb261) (o := .cells #[.int .i64 0, .bool false] 44 (0, 0)) (by (with_reducible repeat (first | refine blk_drewN ?_ _ | refine blk_drew ?_ | refine blk_alloc ?_ _)); exact BK261.out)) : gb261 ≠ gb262)); have n4_ := Aside0.mk ((by rw [hg]; exact Nat.ne_of_gt (blk_lt (g := gb261) (o := .cells #[.int .i64 0, .bool false] 44 (0, 0)) (by (with_reducible repeat (first | refine blk_drewN ?_ _ | refine blk_drew ?_ | refine blk_alloc ?_ _)); exact BK261.out)) : gb262 ≠ gb261)); clear BK261; clear HB; have BK261 := n0_; have HB := n1_; have HI262 := n2_; have NB261_262 := n3_; have NB262_261 := n4_; clear n0_ n1_ n2_ n3_ n4_; clear hb hbox hg) | ((with_reducible refine gate_callee (f := 68) rfl ?_); refine goesL_ (some 16) rfl rfl Try.func68 (by kernel_rfl) rfl #[.pointer (some ⟨gb262, 0, none⟩)] rfl (by (try simp only [List.map_toArray, List.map_cons, List.map_nil]); first | done | rfl | (simp only [List.length_drop, List.length_take]; rfl)) ?_; (with_reducible refine (spec_l1Cur_filtered.calls k gb262 l0 0 0 t263 t264 t265 t268 t271 t272 w _ ?side1 ?side2 A2.out).mono ?_); (case side1 => repeat (first | (with_reducible first | exact HI262.out | apply IsS66.alloc | apply IsS66.drewN | apply IsS66.drew | apply IsS66.set_1 | apply IsS66.set_2 | refine IsS66.far ?_ NB262_261.out _) | exact HI262.out)); (case side2 => repeat (first | (with_reducible first | exact HB.out | apply below_alloc | apply pw_below_drewN | apply below_drew1 | refine below_set ?_ (IsS66.ge HI262.out) | refine below_set ?_ GE261.out) | exact HB.out)); rintro e w7 ⟨v266, v269, rfl, ho0, ho1, hi, hb, hk⟩; refine ⟨_, rfl, ?_⟩; have n0_ := Aside0.mk (KeepBut.blk hk (g' := gb261) (o := .cells #[.int .i64 0, .bool false] 44 (0, 0)) (by (with_reducible repeat (first | refine blk_drewN ?_ _ | refine blk_drew ?_ | refine blk_alloc ?_ _)); exact BK261.out) NB261_262.out (by simp)); have n1_ := Aside0.mk (Kd.R_lower ho0 (below_size (by repeat (first | (with_reducible first | exact HB.out | apply below_alloc | apply pw_below_drewN | apply below_drew1 | refine below_set ?_ (IsS66.ge HI262.out) | refine below_set ?_ GE261.out) | exact HB.out)))); have n2_ := Aside0.mk (Kd.R_lower ho1 (below_size (by repeat (first | (with_reducible first | exact HB.out | apply below_alloc | apply pw_below_drewN | apply below_drew1 | refine below_set ?_ (IsS66.ge HI262.out) | refine below_set ?_ GE261.out) | exact HB.out)))); have n3_ := Aside0.mk (hb); have n4_ := Aside0.mk (hi); clear BK261; clear HB; clear HI262; have BK261 := n0_; have HO267 := n1_; have HO270 := n2_; have HB := n3_; have HI262 := n4_; clear n0_ n1_ n2_ n3_ n4_; (try clear hb); (try clear hb2); (try clear hk); (try clear hi); (try clear ho0); (try clear ho1)) | ((with_reducible refine gate_dst (N := 8) rfl ?_); refine box_event ?hg (N := 8) ?hd (cs := #[.int .i64 0, .bool false]) (t := 44) ?hr ?_; (case hd => rfl); (case hg => rfl); (case hr => first | (go_simp; done) | (go_simp; rfl)); intro gb273 hg w8 hbox hb; have n0_ := Aside0.mk (Kd.R_below (by (with_reducible repeat (first | apply Kd.R_alloc | apply Kd.R_drewN | apply Kd.R_drew)); exact HO267.out) hb); have n1_ := Aside0.mk (Kd.R_below (by (with_reducible repeat (first | apply Kd.R_alloc | apply Kd.R_drewN | apply Kd.R_drew)); exact HO270.out) hb); have n2_ := Aside0.mk (blk_below (g := gb261) (o := .cells #[.int .i64 0, .bool false] 44 (0, 0)) (by (with_reducible repeat (first | refine blk_drewN ?_ _ | refine blk_drew ?_ | refine blk_alloc ?_ _)); exact BK261.out) hb); have n3_ := Aside0.mk (IsS66.below (by repeat (first | (with_reducible first | exact HI262.out | apply IsS66.alloc | apply IsS66.drewN | apply IsS66.drew | apply IsS66.set_1 | apply IsS66.set_2 | refine IsS66.far ?_ NB262_261.out _) | exact HI262.out)) hb); have n4_ := Aside0.mk (below_step (by repeat (first | (with_reducible first | exact HB.out | apply below_alloc | apply pw_below_drewN | apply below_drew1 | refine below_set ?_ (IsS66.ge HI262.out) | refine below_set ?_ GE261.out) | exact HB.out)) hb); have n5_ := Aside0.mk (hbox); have n6_ := Aside0.mk ((by rw [hg]; exact (below_size (by repeat (first | (with_reducible first | exact HB.out | apply below_alloc | apply pw_below_drewN | apply below_drew1 | refine below_set ?_ (IsS66.ge HI262.out) | refine below_set ?_ GE261.out) | exact HB.out))) : w.heap.size ≤ gb273)); have n7_ := Aside0.mk ((by rw [hg]; exact (below_size (by repeat (first | (with_reducible first | exact HB.out | apply below_alloc | apply pw_below_drewN | apply below_drew1 | refine below_set ?_ (IsS66.ge HI262.out) | refine below_set ?_ GE261.out) | exact HB.out))) : w.heap.size ≤ gb273)); have n8_ := Aside0.mk ((by rw [hg]; exact Nat.ne_of_lt (blk_lt (g := gb261) (o := .cells #[.int .i64 0, .bool false] 44 (0, 0)) (by (with_reducible repeat (first | refine blk_drewN ?_ _ | refine blk_drew ?_ | refine blk_alloc ?_ _)); exact BK261.out)) : gb261 ≠ gb273)); have n9_ := Aside0.mk ((by rw [hg]; exact Nat.ne_of_gt (blk_lt (g := gb261) (o := .cells #[.int .i64 0, .bool false] 44 (0, 0)) (by (with_reducible repeat (first | refine blk_drewN ?_ _ | refine blk_drew ?_ | refine blk_alloc ?_ _)); exact BK261.out)) : gb273 ≠ gb261)); have n10_ := Aside0.mk ((by rw [hg]; exact Nat.ne_of_lt (IsS66.lt (show IsS66 w _ gb262 l0 t271 t272 from by repeat (first | (with_reducible first | exact HI262.out | apply IsS66.alloc | apply IsS66.drewN | apply IsS66.drew | apply IsS66.set_1 | apply IsS66.set_2 | refine IsS66.far ?_ NB262_261.out _) | exact HI262.out))) : gb262 ≠ gb273)); have n11_ := Aside0.mk ((by rw [hg]; exact Nat.ne_of_gt (IsS66.lt (show IsS66 w _ gb262 l0 t271 t272 from by repeat (first | (with_reducible first | exact HI262.out | apply IsS66.alloc | apply IsS66.drewN | apply IsS66.drew | apply IsS66.set_1 | apply IsS66.set_2 | refine IsS66.far ?_ NB262_261.out _) | exact HI262.out))) : gb273 ≠ gb262)); clear HO267; clear HO270; clear BK261; clear HI262; clear HB; have HO267 := n0_; have HO270 := n1_; have BK261 := n2_; have HI262 := n3_; have HB := n4_; have BK273 := n5_; have GW273 := n6_; have GE273 := n7_; have NB261_273 := n8_; have NB273_261 := n9_; have NB262_273 := n10_; have NB273_262 := n11_; clear n0_ n1_ n2_ n3_ n4_ n5_ n6_ n7_ n8_ n9_ n10_ n11_; clear hb hbox hg; have hnb9 := NB273_261.out; have hnc9 := NB261_273.out; have hnb10 := NB273_262.out; have hnc10 := NB262_273.out; have hcz11_0 : w8.cell? ⟨gb273, 0, none⟩ = some (.int .i64 0) := (blk_cell BK273.out 0).trans rfl; have hcz11_1 : w8.cell? ⟨gb273, 1, none⟩ = some (.bool false) := (blk_cell BK273.out 1).trans rfl; have hfz11_0 := blk_frozen BK273.out 0; have hfz11_1 := blk_frozen BK273.out 1))
 have n0_ : Aside0 (Kd.R (Kd.int .i64) 3 ((w8.setCell ⟨gb273, 0, none⟩ (.int .i64 t263)).setCell ⟨gb273, 1, none⟩ (.bool t264)) w.heap.size (fun k_ => some k_ ≠ (v269 : Value).ownBlock) v266 t265) := ⟨by (with_reducible repeat (first | apply Kd.R_alloc | apply Kd.R_drewN | apply Kd.R_drew)); exact Kd.R_mono (Kd.R_far (p := ⟨gb273, 1, none⟩) (Kd.R_far (p := ⟨gb273, 0, none⟩) (Kd.R_types HO267.out BK273.out (by decide)) (fun _ hk => hk.2) (.int .i64 t263)) (fun _ hk => hk.2) (.bool t264)) (fun _ hk => hk.1)⟩
 have n1_ : Aside0 (Kd.R (Kd.int .i64) 3 ((w8.setCell ⟨gb273, 0, none⟩ (.int .i64 t263)).setCell ⟨gb273, 1, none⟩ (.bool t264)) w.heap.size (fun k_ => some k_ ≠ (v266 : Value).ownBlock) v269 t268) := ⟨by (with_reducible repeat (first | apply Kd.R_alloc | apply Kd.R_drewN | apply Kd.R_drew)); exact Kd.R_mono (Kd.R_far (p := ⟨gb273, 1, none⟩) (Kd.R_far (p := ⟨gb273, 0, none⟩) (Kd.R_types HO270.out BK273.out (by decide)) (fun _ hk => hk.2) (.int .i64 t263)) (fun _ hk => hk.2) (.bool t264)) (fun _ hk => hk.1)⟩
 have n2_ : Aside0 (((w8.setCell ⟨gb273, 0, none⟩ (.int .i64 t263)).setCell ⟨gb273, 1, none⟩ (.bool t264)).heap[gb261]? = some (.cells #[.int .i64 0, .bool false] 44 (0, 0))) := ⟨by (with_reducible repeat (first | refine blk_drewN ?_ _ | refine blk_drew ?_ | refine blk_alloc ?_ _)); refine blk_far ?_ NB261_273.out _; (with_reducible repeat (first | refine blk_drewN ?_ _ | refine blk_drew ?_ | refine blk_alloc ?_ _)); refine blk_far ?_ NB261_273.out _; (with_reducible repeat (first | refine blk_drewN ?_ _ | refine blk_drew ?_ | refine blk_alloc ?_ _)); exact BK261.out⟩
 have n3_ : Aside0 (((w8.setCell ⟨gb273, 0, none⟩ (.int .i64 t263)).setCell ⟨gb273, 1, none⟩ (.bool t264)).heap[gb273]? = some (.cells #[.int .i64 t263, .bool t264] 44 (0, 0))) := ⟨by (with_reducible repeat (first | refine blk_drewN ?_ _ | refine blk_drew ?_ | refine blk_alloc ?_ _)); refine blk_put (cs := #[.int .i64 t263, .bool false]) ?_ 1 _ rfl; (with_reducible repeat (first | refine blk_drewN ?_ _ | refine blk_drew ?_ | refine blk_alloc ?_ _)); refine blk_put (cs := #[.int .i64 0, .bool false]) ?_ 0 _ rfl; (with_reducible repeat (first | refine blk_drewN ?_ _ | refine blk_drew ?_ | refine blk_alloc ?_ _)); exact BK273.out⟩
 have n4_ : Aside0 (IsS66 w ((w8.setCell ⟨gb273, 0, none⟩ (.int .i64 t263)).setCell ⟨gb273, 1, none⟩ (.bool t264)) gb262 l0 t271 t272) := ⟨by repeat (first | (with_reducible first | exact HI262.out | apply IsS66.alloc | apply IsS66.drewN | apply IsS66.drew | apply IsS66.set_1 | apply IsS66.set_2 | refine IsS66.far ?_ NB262_261.out _ | refine IsS66.far ?_ NB262_273.out _) | exact HI262.out)⟩
 have n5_ : Aside0 (Below w.heap.size w ((w8.setCell ⟨gb273, 0, none⟩ (.int .i64 t263)).setCell ⟨gb273, 1, none⟩ (.bool t264))) := ⟨by repeat (first | (with_reducible first | exact HB.out | apply below_alloc | apply pw_below_drewN | apply below_drew1 | refine below_set ?_ (IsS66.ge HI262.out) | refine below_set ?_ GE261.out | refine below_set ?_ GE273.out) | exact HB.out)⟩
 (try clear HO267)
 (try clear HO270)
 (try clear BK261)
 (try clear BK273)
 (try clear HI262)
 (try clear HB)
 generalize ((w8.setCell ⟨gb273, 0, none⟩ (.int .i64 t263)).setCell ⟨gb273, 1, none⟩ (.bool t264)) = w12 at n0_ n1_ n2_ n3_ n4_ n5_ ⊢
 have HO267 := n0_
 have HO270 := n1_
 have BK261 := n2_
 have BK273 := n3_
 have HI262 := n4_
 have HB := n5_
 clear n0_ n1_ n2_ n3_ n4_ n5_
 have n0_ := Aside0.mk (Kd.R_drew HO267.out)
 have n1_ := Aside0.mk (Kd.R_drew HO270.out)
 have n2_ := Aside0.mk (blk_drew BK261.out)
 have n3_ := Aside0.mk (blk_drew BK273.out)
 have n4_ := Aside0.mk (IsS66.drew HI262.out)
 have n5_ := Aside0.mk (below_drew1 HB.out)
 clear HO267
 clear HO270
 clear BK261
 clear BK273
 clear HI262
 clear HB
 have HO267 := n0_
 have HO270 := n1_
 have BK261 := n2_
 have BK273 := n3_
 have HI262 := n4_
 have HB := n5_
 clear n0_ n1_ n2_ n3_ n4_ n5_
 refine start_ (n := 12) (S := fun w' => w'.cell? ⟨gb273, 0, none⟩ = some (.int .i64 t263) ∧ w'.cell? ⟨gb273, 1, none⟩ = some (.bool t264)) (ds := []) #[false, false, false, false, false, false, false, false, false, false, false, false] (by kernel_rfl) rfl rfl ⟨(blk_cell BK273.out 0).trans rfl, (blk_cell BK273.out 1).trans rfl⟩ (fun hHeld => ?_); refine with_tabW spec_DrawFilterInWord.tab3 spec_DrawFilterInWord.bits3 (fun HT_ HW_ => ?_)
 generalize w12.drew = w13 at HO267 HO270 BK261 BK273 HI262 HB hHeld ⊢
 refine pure_ (i := 1) (N := some 21) (v := ?_) (a' := ?_) #[false, true, false, false, false, false, false, false, false, false, false, false] rfl rfl (any_of HT_.out (by kernel_rfl)) (fun _ _ _ h => h) (Or.inl ⟨by rfl, ?_⟩) ?_ ?_
 rotate_left
 ·intro w'
  go_simp
  with_reducible rfl
 rotate_left
 ·simp only [Act.put, List.setIfInBounds_toArray, List.set_cons_zero, List.set_cons_succ, i64_w, i32_w]
  rfl
 refine pure_ (i := 2) (N := some 22) (v := ?_) (a' := ?_) #[false, true, true, false, false, false, false, false, false, false, false, false] rfl rfl (any_of HT_.out (by kernel_rfl)) (fun _ _ _ h => h) (Or.inl ⟨by rfl, ?_⟩) ?_ ?_
 rotate_left
 ·intro w'
  go_simp
  with_reducible rfl
 rotate_left
 ·simp only [Act.put, List.setIfInBounds_toArray, List.set_cons_zero, List.set_cons_succ, i64_w, i32_w]
  rfl
 refine pure_ (i := 3) (N := some 23) (v := ?_) (a' := ?_) #[false, true, true, true, false, false, false, false, false, false, false, false] rfl rfl (any_of HT_.out (by kernel_rfl)) (fun _ _ _ h => h) (Or.inl ⟨by rfl, ?_⟩) ?_ ?_
 rotate_left
 ·intro w'
  go_simp
  with_reducible rfl
 rotate_left
 ·simp only [Act.put, List.setIfInBounds_toArray, List.set_cons_zero, List.set_cons_succ, i64_w, i32_w]
  rfl
 refine pure_ (i := 5) (N := some 25) (v := ?_) (a' := ?_) #[false, true, true, true, false, true, false, false, false, false, false, false] rfl rfl (any_of HT_.out (by kernel_rfl)) (fun _ _ _ h => h) (Or.inl ⟨by rfl, ?_⟩) ?_ ?_
 rotate_left
 ·intro w'
  go_simp
  with_reducible rfl
 rotate_left
 ·simp only [Act.put, List.setIfInBounds_toArray, List.set_cons_zero, List.set_cons_succ, i64_w, i32_w]
  rfl
 refine take_ (i := 0) (N := some 20) (v := ?_) (a' := ?_) #[true, true, true, true, false, true, false, false, false, false, false, false] rfl rfl (take_ofW HT_.out HW_.out (by kernel_rfl)) (fun _ _ _ h => h) (Or.inl ⟨by rfl, ?_⟩) hHeld ?_ ?_
 rotate_left
 ·rintro w' ⟨s0, s1⟩
  go_simp
  with_reducible rfl
 rotate_left
 ·simp only [Act.put, List.setIfInBounds_toArray, List.set_cons_zero, List.set_cons_succ, i64_w, i32_w]
  rfl
 refine one_ (i := 4) (N := some 24) #[true, true, true, true, true, true, false, false, false, false, false, false] rfl rfl (one_of HT_.out (by kernel_rfl)) (by decide) (fun K hK => ?_)
 refine goes_ Try.func65 (by kernel_rfl) rfl #[.pointer (some ⟨gb262, 0, none⟩), .int .i64 4] (by rfl) rfl rfl (by (try simp only [List.map_toArray, List.map_cons, List.map_nil]); first | done | rfl | (simp only [List.length_drop, List.length_take]; rfl)) ?_
 with_reducible refine (spec_l1Cur_pick.calls gb262 l0 t271 t272 4 t274 t275 t276 w _ ?side1 ?side2 A3.out).mono ?_
 (case side1 => repeat (first | (with_reducible first | exact HI262.out | apply IsS66.alloc | apply IsS66.drewN | apply IsS66.drew | apply IsS66.set_1 | apply IsS66.set_2 | refine IsS66.far ?_ NB262_261.out _ | refine IsS66.far ?_ NB262_273.out _) | exact HI262.out))
 (case side2 => repeat (first | (with_reducible first | exact HB.out | apply below_alloc | apply pw_below_drewN | apply below_drew1 | refine below_set ?_ (IsS66.ge HI262.out) | refine below_set ?_ GE261.out | refine below_set ?_ GE273.out) | exact HB.out))
 rintro e w14 ⟨rfl, hi, hb, hk⟩
 refine ⟨_, rfl, ?_⟩
 have n0_ := Aside0.mk (KeepBut.blk hk (g' := gb261) (o := .cells #[.int .i64 0, .bool false] 44 (0, 0)) (by (with_reducible repeat (first | refine blk_drewN ?_ _ | refine blk_drew ?_ | refine blk_alloc ?_ _)); exact BK261.out) NB261_262.out (by simp))
 have n1_ := Aside0.mk (Kd.R_mono (Kd.R_keep (IsS66.apart (show IsS66 w _ gb262 l0 t271 t272 from by repeat (first | (with_reducible first | exact HI262.out | apply IsS66.alloc | apply IsS66.drewN | apply IsS66.drew | apply IsS66.set_1 | apply IsS66.set_2 | refine IsS66.far ?_ NB262_261.out _ | refine IsS66.far ?_ NB262_273.out _) | exact HI262.out)) (by (with_reducible repeat (first | apply Kd.R_alloc | apply Kd.R_drewN | apply Kd.R_drew)); exact HO267.out) (by decide)) hk (fun _ h => h.2)) (fun _ h => h.1))
 have n2_ := Aside0.mk (Kd.R_mono (Kd.R_keep (IsS66.apart (show IsS66 w _ gb262 l0 t271 t272 from by repeat (first | (with_reducible first | exact HI262.out | apply IsS66.alloc | apply IsS66.drewN | apply IsS66.drew | apply IsS66.set_1 | apply IsS66.set_2 | refine IsS66.far ?_ NB262_261.out _ | refine IsS66.far ?_ NB262_273.out _) | exact HI262.out)) (by (with_reducible repeat (first | apply Kd.R_alloc | apply Kd.R_drewN | apply Kd.R_drew)); exact HO270.out) (by decide)) hk (fun _ h => h.2)) (fun _ h => h.1))
 have n3_ := Aside0.mk (KeepBut.blk hk (g' := gb273) (o := .cells #[.int .i64 t263, .bool t264] 44 (0, 0)) (by (with_reducible repeat (first | refine blk_drewN ?_ _ | refine blk_drew ?_ | refine blk_alloc ?_ _)); exact BK273.out) NB273_262.out (by simp))
 have n4_ := Aside0.mk (hb)
 have n5_ := Aside0.mk (hi)
 clear BK261
 clear HO267
 clear HO270
 clear BK273
 clear HB
 clear HI262
 have BK261 := n0_
 have HO267 := n1_
 have HO270 := n2_
 have BK273 := n3_
 have HB := n4_
 have HI262 := n5_
 clear n0_ n1_ n2_ n3_ n4_ n5_
 (try clear hb)
 (try clear hb2)
 (try clear hk)
 (try clear hi)
 refine hK.out _ _ ⟨(blk_cell BK273.out 0).trans rfl, (blk_cell BK273.out 1).trans rfl⟩ (fun hHeld => ?_)
 clear hK K
 refine norm_ (a' := ?_) ?_ ?_
 rotate_left
 ·show Act.put _ (some 24) _ = _
  simp only [Act.put, List.setIfInBounds_toArray, List.set_cons_zero, List.set_cons_succ, i64_w, i32_w]
  rfl
 refine one_ (i := 6) (N := some 26) #[true, true, true, true, true, true, true, false, false, false, false, false] rfl rfl (one_of HT_.out (by kernel_rfl)) (by decide) (fun K hK => ?_)
 refine goes_ Try.func69 (by kernel_rfl) rfl #[.pointer (some ⟨gb262, 0, none⟩)] (by rfl) rfl rfl (by (try simp only [List.map_toArray, List.map_cons, List.map_nil]); first | done | rfl | (simp only [List.length_drop, List.length_take]; rfl)) ?_
 with_reducible refine (spec_l1Cur_mode.calls gb262 l0 t275 t276 t277 t278 t279 w _ ?side1 ?side2 A4.out).mono ?_
 (case side1 => repeat (first | (with_reducible first | exact HI262.out | apply IsS66.alloc | apply IsS66.drewN | apply IsS66.drew | apply IsS66.set_1 | apply IsS66.set_2 | refine IsS66.far ?_ NB262_261.out _ | refine IsS66.far ?_ NB262_273.out _) | exact HI262.out))
 (case side2 => repeat (first | (with_reducible first | exact HB.out | apply below_alloc | apply pw_below_drewN | apply below_drew1 | refine below_set ?_ (IsS66.ge HI262.out) | refine below_set ?_ GE261.out | refine below_set ?_ GE273.out) | exact HB.out))
 rintro e w15 ⟨rfl, hi, hb, hk⟩
 refine ⟨_, rfl, ?_⟩
 have n0_ := Aside0.mk (KeepBut.blk hk (g' := gb261) (o := .cells #[.int .i64 0, .bool false] 44 (0, 0)) (by (with_reducible repeat (first | refine blk_drewN ?_ _ | refine blk_drew ?_ | refine blk_alloc ?_ _)); exact BK261.out) NB261_262.out (by simp))
 have n1_ := Aside0.mk (Kd.R_mono (Kd.R_keep (IsS66.apart (show IsS66 w _ gb262 l0 t275 t276 from by repeat (first | (with_reducible first | exact HI262.out | apply IsS66.alloc | apply IsS66.drewN | apply IsS66.drew | apply IsS66.set_1 | apply IsS66.set_2 | refine IsS66.far ?_ NB262_261.out _ | refine IsS66.far ?_ NB262_273.out _) | exact HI262.out)) (by (with_reducible repeat (first | apply Kd.R_alloc | apply Kd.R_drewN | apply Kd.R_drew)); exact HO267.out) (by decide)) hk (fun _ h => h.2)) (fun _ h => h.1))
 have n2_ := Aside0.mk (Kd.R_mono (Kd.R_keep (IsS66.apart (show IsS66 w _ gb262 l0 t275 t276 from by repeat (first | (with_reducible first | exact HI262.out | apply IsS66.alloc | apply IsS66.drewN | apply IsS66.drew | apply IsS66.set_1 | apply IsS66.set_2 | refine IsS66.far ?_ NB262_261.out _ | refine IsS66.far ?_ NB262_273.out _) | exact HI262.out)) (by (with_reducible repeat (first | apply Kd.R_alloc | apply Kd.R_drewN | apply Kd.R_drew)); exact HO270.out) (by decide)) hk (fun _ h => h.2)) (fun _ h => h.1))
 have n3_ := Aside0.mk (KeepBut.blk hk (g' := gb273) (o := .cells #[.int .i64 t263, .bool t264] 44 (0, 0)) (by (with_reducible repeat (first | refine blk_drewN ?_ _ | refine blk_drew ?_ | refine blk_alloc ?_ _)); exact BK273.out) NB273_262.out (by simp))
 have n4_ := Aside0.mk (hb)
 have n5_ := Aside0.mk (hi)
 clear BK261
 clear HO267
 clear HO270
 clear BK273
 clear HB
 clear HI262
 have BK261 := n0_
 have HO267 := n1_
 have HO270 := n2_
 have BK273 := n3_
 have HB := n4_
 have HI262 := n5_
 clear n0_ n1_ n2_ n3_ n4_ n5_
 (try clear hb)
 (try clear hb2)
 (try clear hk)
 (try clear hi)
 refine hK.out _ _ ⟨(blk_cell BK273.out 0).trans rfl, (blk_cell BK273.out 1).trans rfl⟩ (fun hHeld => ?_)
 clear hK K
 refine norm_ (a' := ?_) ?_ ?_
 rotate_left
 ·show Act.put _ (some 26) _ = _
  simp only [Act.put, List.setIfInBounds_toArray, List.set_cons_zero, List.set_cons_succ, i64_w, i32_w]
  rfl
 refine one_ (i := 7) (N := none) #[true, true, true, true, true, true, true, true, false, false, false, false] rfl rfl (one_of HT_.out (by kernel_rfl)) (by decide) (fun K hK => ?_)
 have hs16 : w15.cell? ⟨gb261, 0, none⟩ = some (.int .i64 0) := (blk_cell BK261.out 0).trans rfl
 have hfs16 := blk_frozen BK261.out 0
 have hns16_1 := NB273_261.out
 have hms16_1 := NB261_273.out
 have hs17 : w15.cell? ⟨gb261, 1, none⟩ = some (.bool false) := (blk_cell BK261.out 1).trans rfl
 have hfs17 := blk_frozen BK261.out 1
 have hns17_1 := NB273_261.out
 have hms17_1 := NB261_273.out
 refine skip_ (w1 := ?_) (by rfl) rfl ?_ ?_
 rotate_left
 ·go_simp
  rfl
 refine hK.out _ _ ⟨((cell_far (p := ⟨gb261, _, none⟩) NB273_261.out _).trans (((cell_far (p := ⟨gb261, _, none⟩) NB273_261.out _).trans (hHeld.1)))), ((cell_far (p := ⟨gb261, _, none⟩) NB273_261.out _).trans (((cell_far (p := ⟨gb261, _, none⟩) NB273_261.out _).trans (hHeld.2))))⟩ (fun hHeld => ?_)
 clear hK K
 refine pure_ (i := 8) (N := some 3) (v := ?_) (a' := ?_) #[true, true, true, true, true, true, true, true, true, false, false, false] rfl rfl (any_of HT_.out (by kernel_rfl)) (fun _ _ _ h => h) (Or.inl ⟨by rfl, ?_⟩) ?_ ?_
 rotate_left
 ·intro w'
  go_simp
  with_reducible rfl
 rotate_left
 ·simp only [Act.put, List.setIfInBounds_toArray, List.set_cons_zero, List.set_cons_succ, i64_w, i32_w]
  rfl
 refine pure_ (i := 9) (N := some 4) (v := ?_) (a' := ?_) #[true, true, true, true, true, true, true, true, true, true, false, false] rfl rfl (any_of HT_.out (by kernel_rfl)) (fun _ _ _ h => h) (Or.inl ⟨by rfl, ?_⟩) ?_ ?_
 rotate_left
 ·intro w'
  go_simp
  with_reducible rfl
 rotate_left
 ·simp only [Act.put, List.setIfInBounds_toArray, List.set_cons_zero, List.set_cons_succ, i64_w, i32_w]
  rfl
 refine pure_ (i := 10) (N := some 5) (v := ?_) (a' := ?_) #[true, true, true, true, true, true, true, true, true, true, true, false] rfl rfl (any_of HT_.out (by kernel_rfl)) (fun _ _ _ h => h) (Or.inl ⟨by rfl, ?_⟩) ?_ ?_
 rotate_left
 ·intro w'
  go_simp
  with_reducible rfl
 rotate_left
 ·simp only [Act.put, List.setIfInBounds_toArray, List.set_cons_zero, List.set_cons_succ, i64_w, i32_w]
  rfl
 refine pure_ (i := 11) (N := some 6) (v := ?_) (a' := ?_) #[true, true, true, true, true, true, true, true, true, true, true, true] rfl rfl (any_of HT_.out (by kernel_rfl)) (fun _ _ _ h => h) (Or.inl ⟨by rfl, ?_⟩) ?_ ?_
 rotate_left
 ·intro w'
  go_simp
  with_reducible rfl
 rotate_left
 ·simp only [Act.put, List.setIfInBounds_toArray, List.set_cons_zero, List.set_cons_succ, i64_w, i32_w]
  rfl
 refine done_ (done_of HT_.out (by kernel_rfl)) ?_
 try go_wp2
 refine bodyPost_ret (results_list (rs := [.cell 2 44, .tmp 3, .tmp 4, .tmp 5, .tmp 6]) rfl (by simp) (.cell gb261 44 #[.int .i64 t263, .bool t264] (0, 0) _ rfl (by (with_reducible repeat (first | refine blk_drewN ?_ _ | refine blk_drew ?_ | refine blk_alloc ?_ _)); refine blk_put (cs := #[.int .i64 t263, .bool false]) ?_ 1 _ rfl; (with_reducible repeat (first | refine blk_drewN ?_ _ | refine blk_drew ?_ | refine blk_alloc ?_ _)); refine blk_put (cs := #[.int .i64 0, .bool false]) ?_ 0 _ rfl; (with_reducible repeat (first | refine blk_drewN ?_ _ | refine blk_drew ?_ | refine blk_alloc ?_ _)); exact BK261.out) Try.underlying44 rfl (by kernel_rfl) (.tmp (.tmp (.tmp (.tmp .nil)))))) rfl ?_
 exact ⟨_, _, by first | rfl | (simp [errW_none, errW_some] <;> rfl) | (simp [*, errW_none, errW_some] <;> rfl), by (with_reducible repeat (first | apply Kd.R_alloc | apply Kd.R_drewN | apply Kd.R_drew)); exact Kd.R_mono (Kd.R_far (p := ⟨gb261, 1, none⟩) (Kd.R_far (p := ⟨gb261, 0, none⟩) (Kd.R_types HO267.out BK261.out (by decide)) (fun _ hk => hk.2) (.int .i64 t263)) (fun _ hk => hk.2) (.bool t264)) (fun _ hk => hk.1), by (with_reducible repeat (first | apply Kd.R_alloc | apply Kd.R_drewN | apply Kd.R_drew)); exact Kd.R_mono (Kd.R_far (p := ⟨gb261, 1, none⟩) (Kd.R_far (p := ⟨gb261, 0, none⟩) (Kd.R_types HO270.out BK261.out (by decide)) (fun _ hk => hk.2) (.int .i64 t263)) (fun _ hk => hk.2) (.bool t264)) (fun _ hk => hk.1), by repeat (first | (with_reducible first | exact HB.out | apply below_alloc | apply pw_below_drewN | apply below_drew1 | refine below_set ?_ (IsS66.ge HI262.out) | refine below_set ?_ GE261.out | refine below_set ?_ GE273.out) | exact HB.out)⟩

/-! ### impl_in: function 59 -/
def impl_in.f (a0 : Int) (a1 : Int) (a2 : Int) : Option (Bool) := if a1 ≤ a0 then (some (decide (a0 ≤ a2))) else (some false)
set_option maxHeartbeats 80000000 in
set_option maxRecDepth 100000 in
theorem impl_in.calls (a0 : Int) (a1 : Int) (a2 : Int) (r : Bool) (w : World) (h : impl_in.f a0 a1 a2 = some r) :
  Calls Try.prog 59 #[.int .i64 a0, .int .i64 a1, .int .i64 a2] w fun e w' => e = .returned (.bool r) ∧ Drawn0 w w' := by
 have H : (if a1 ≤ a0 then (some (decide (a0 ≤ a2))) else (some false)) = some r := h
 clear h
 by_cases c4 : a1 ≤ a0
 ·rw [if_pos c4] at H
  have c4b0 : decide (a1 ≤ a0) = true := decide_eq_true c4
  clear c4
  obtain rfl := Option.some.inj H
  go_enter Try.func59, Try.ntmps59
  go_wp2
  go_ret
  exact ⟨by first | rfl | (simp; done) | (simp [*]; done), by repeat (first | exact Drawn0.refl _ | apply Drawn0.step)⟩
 ·rw [if_neg c4] at H
  have c4b0 : decide (a1 ≤ a0) = false := decide_eq_false c4
  clear c4
  obtain rfl := Option.some.inj H
  go_enter Try.func59, Try.ntmps59
  go_wp2
  go_ret
  exact ⟨by first | rfl | (simp; done) | (simp [*]; done), by repeat (first | exact Drawn0.refl _ | apply Drawn0.step)⟩

/-! ### slices_IndexFunc_int_int: function 129 -/
/-- a function value that answers a predicate on whole numbers, and leaves what was -/
def PredI (g : Nat) (lb : Array Value) (p : Int → Bool) (w : World) : Prop :=
  ∀ (W : World) (x : Int), Below w.heap.size w W → Calls Try.prog g (#[.int .i64 x] ++ lb) W fun e w' => e = .returned (.bool (p x)) ∧ Below W.heap.size W w'
def idxI (p : Int → Bool) : List Int → Int → Int
  | [], _ => -1
  | x :: r, i => if p x = true then i else idxI p r (i + 1)
theorem rd_drop (l : List Int) (k : Nat) (h : k < l.length) : l.drop k = rd l k :: l.drop (k + 1) := by
  rw [List.drop_eq_getElem_cons h]; congr 1; simp [rd, h]
set_option maxHeartbeats 2000000 in
theorem slices_IndexFunc_int (p : Int → Bool) (g : Nat) (lb : Array Value) (eg : ∀ args w, (callFunc g args).run Try.prog w = .ok (.enter g args) w) (A0 : Option Addr) (c0 : Nat) (l0 : List Int) (w : World)
    (hr0 : Kd.C (Kd.int .i64) w A0 l0.length l0) (hc0 : l0.length ≤ c0) (hp : PredI g lb p w) :
    Calls Try.prog 129 #[.slice A0 l0.length c0, .func (.func g) #[] lb] w fun e w' => e = .returned (.int .i64 (idxI p l0 0)) ∧ Below w.heap.size w w' := by
  have hbig := hr0.2.1
  go_enter Try.func129, Try.ntmps129
  go_wp2
  have HP := Aside0.mk hp
  have HR := Aside0.mk hr0
  clear hp hr0 hc0
  go_loopg [5, 8] l0.length (fun gg _ s8 wr => ∃ kk : Nat, kk ≤ l0.length ∧ l0.length - kk ≤ gg ∧ s8 = .int .i64 kk ∧ Aside0 (Below w.heap.size w wr) ∧ Aside0 (idxI p (l0.drop kk) kk = idxI p l0 0))
  case atStart => exact ⟨0, Nat.zero_le _, by omega, rfl, ⟨Below.refl _ _⟩, ⟨rfl⟩⟩
  case round =>
    obtain ⟨kk, hkk, hg, rfl, HB, A⟩ := hrel
    by_cases hlt : kk < l0.length
    · have hltz : (kk : Int) < (l0.length : Int) := by omega
      obtain ⟨ad, e, hx⟩ := Kd.at_int HR.out (kk : Int) (by omega) hltz
      subst e
      replace hx := (HB.out.cell (World.block_lt_of_cell? w _ hx)).trans hx
      simp only [Int.toNat_natCast] at hx
      have HD := Aside0.mk (rd_drop l0 kk hlt)
      have hcall := HP.out wr (rd l0 kk) HB.out
      rw [HD.out] at A
      generalize rd l0 kk = y at hx hcall A
      simp only [idxI] at A
      cases hq : p y with
      | true =>
        rw [hq] at hcall
        have A' := A.out; rw [if_pos hq] at A'; clear A
        have HA := Aside0.mk A'; clear A'
        go_wp2_with (fail)
        refine (hcall).mono ?_
        rintro e w1 ⟨rfl, hb1⟩
        go_wp2
        go_ret
        exact ⟨congrArg (fun z => Ending.returned (.int .i64 z)) HA.out, below_step HB.out hb1⟩
      | false =>
        rw [hq] at hcall
        have A' := A.out; rw [if_neg (by simp [hq])] at A'; clear A
        have HA := Aside0.mk A'; clear A'
        go_wp2_with (fail)
        refine (hcall).mono ?_
        rintro e w1 ⟨rfl, hb1⟩
        go_wp2
        go_roundg (l0.length - (kk + 1))
        case measure => omega
        case rel => exact ⟨kk + 1, by omega, by omega, by go_num, ⟨below_step HB.out hb1⟩, ⟨HA.out⟩⟩
    · have hltz : ¬ (kk : Int) < (l0.length : Int) := by omega
      obtain rfl : kk = l0.length := by omega
      have A' := A.out; rw [List.drop_length] at A'; simp only [idxI] at A'; clear A
      have HA := Aside0.mk A'; clear A'
      go_wp2
      go_ret
      exact ⟨congrArg (fun z => Ending.returned (.int .i64 z)) HA.out, HB.out⟩
theorem idxI_any0 (p : Int → Bool) : ∀ (l : List Int) (i : Int), 0 ≤ i → (0 ≤ idxI p l i ↔ l.any p = true)
  | [], i, _ => by simp [idxI]
  | x :: r, i, h => by
    have ih := idxI_any0 p r (i + 1) (by omega)
    unfold idxI
    by_cases hx : p x = true
    · simp [hx, h]
    · simp only [hx, List.any_cons, Bool.false_or]
      simpa using ih
theorem idxI_any (p : Int → Bool) (l : List Int) : decide (idxI p l 0 ≥ 0) = l.any p := by
  have h := idxI_any0 p l 0 (by omega)
  cases hb : l.any p with
  | true => exact decide_eq_true (h.mpr hb)
  | false => exact decide_eq_false (fun e => by rw [h.mp e] at hb; cases hb)

/-! ### slices_ContainsFunc_int_int: function 104 -/
theorem slices_ContainsFunc_int (p : Int → Bool) (g : Nat) (lb : Array Value) (eg : ∀ args w, (callFunc g args).run Try.prog w = .ok (.enter g args) w) (A0 : Option Addr) (c0 : Nat) (l0 : List Int) (w : World)
    (hr0 : Kd.C (Kd.int .i64) w A0 l0.length l0) (hc0 : l0.length ≤ c0) (hp : PredI g lb p w) :
    Calls Try.prog 104 #[.slice A0 l0.length c0, .func (.func g) #[] lb] w fun e w' => e = .returned (.bool (l0.any p)) ∧ Below w.heap.size w w' := by
  have hi := slices_IndexFunc_int p g lb eg A0 c0 l0 w hr0 hc0 hp
  have HA := Aside0.mk (idxI_any p l0)
  clear hr0 hc0 hp
  generalize idxI p l0 0 = r at hi HA
  go_enter Try.func104, Try.ntmps104
  go_wp2_with (go_at_call 129; refine hi.mono ?_; rintro e w1 ⟨rfl, hb1⟩)
  go_ret
  exact ⟨congrArg (fun z => Ending.returned (.bool z)) HA.out, hb1⟩


/-! ### impl_isWeights: function 78 -/
def impl_isWeights.f (l0 : List Int) : Option (Bool) := some (decide (1 ≤ (l0.length : Int)) && decide ((l0.length : Int) ≤ 9) && l0.all (fun x => decide (-1000 ≤ x) && decide (x ≤ 1000)))
theorem isWeights_pred (w : World) : PredI 109 #[] (fun x => !(decide (-1000 ≤ x) && decide (x ≤ 1000))) w := fun W x _ => by
  show Calls Try.prog 109 #[.int .i64 x] W fun e w' => e = .returned (.bool (!(decide (-1000 ≤ x) && decide (x ≤ 1000)))) ∧ Below W.heap.size W w'
  have hin : impl_in.f x (-1000) 1000 = some (decide (-1000 ≤ x) && decide (x ≤ 1000)) := by
    unfold impl_in.f
    by_cases h : -1000 ≤ x <;> simp [h]
  have hc := impl_in.calls x (-1000) 1000 _ W hin
  clear hin
  generalize (decide (-1000 ≤ x) && decide (x ≤ 1000)) = b at hc ⊢
  go_enter Try.func109, Try.ntmps109
  go_wp2_with (go_at_call 59; refine hc.mono ?_; rintro e w1 ⟨rfl, hd⟩)
  go_ret
  exact ⟨rfl, hd.below⟩
set_option maxHeartbeats 2000000 in
theorem impl_isWeights.calls (A0 : Option Addr) (c0 : Nat) (l0 : List Int) (r : Bool) (w : World) (hr0 : Kd.C (Kd.int .i64) w A0 l0.length l0) (hc0 : l0.length ≤ c0) (h : impl_isWeights.f l0 = some r) :
    Calls Try.prog 78 #[.slice A0 l0.length c0] w fun e w' => e = .returned (.bool r) ∧ Below w.heap.size w w' := by
  have hin : impl_in.f l0.length 1 9 = some (decide (1 ≤ (l0.length : Int)) && decide ((l0.length : Int) ≤ 9)) := by
    unfold impl_in.f
    by_cases h : 1 ≤ (l0.length : Int) <;> simp [h]
  have hcin := impl_in.calls l0.length 1 9 _ w hin
  have HI : ∀ w1, Below w.heap.size w w1 → Calls Try.prog 104 #[.slice A0 l0.length c0, .func (.func 109) #[] #[]] w1 fun e w' => e = .returned (.bool (l0.any (fun x => !(decide (-1000 ≤ x) && decide (x ≤ 1000))))) ∧ Below w1.heap.size w1 w' :=
    fun w1 hb => slices_ContainsFunc_int _ 109 #[] (enters_ Try.func109 (by kernel_rfl) rfl) A0 c0 l0 w1 (Kd.C_below hr0 hb) hc0 (isWeights_pred w1)
  have HI' := Aside0.mk HI
  have HA : Aside0 (r = ((decide (1 ≤ (l0.length : Int)) && decide ((l0.length : Int) ≤ 9)) && !(l0.any (fun x => !(decide (-1000 ≤ x) && decide (x ≤ 1000)))))) := ⟨by
    have := Option.some.inj h
    rw [← this, List.all_eq_not_any_not]⟩
  clear hr0 hc0 h hin HI
  generalize l0.any (fun x => !(decide (-1000 ≤ x) && decide (x ≤ 1000))) = b at HI' HA
  generalize (decide (1 ≤ (l0.length : Int)) && decide ((l0.length : Int) ≤ 9)) = c at hcin HA
  cases c with
  | true =>
    go_enter Try.func78, Try.ntmps78
    go_wp2_with (go_at_call 59; refine hcin.mono ?_; rintro e w1 ⟨rfl, hd⟩)
    have hi := HI'.out w1 hd.below
    have HD := Aside0.mk hd
    clear HI' hcin hd
    go_wp2_with (go_at_call 104; refine hi.mono ?_; rintro e w2 ⟨rfl, hb1⟩)
    go_ret
    exact ⟨congrArg (fun z => Ending.returned (.bool z)) (by rw [HA.out]; simp), below_step HD.out.below hb1⟩
  | false =>
    clear HI'
    go_enter Try.func78, Try.ntmps78
    go_wp2_with (go_at_call 59; refine hcin.mono ?_; rintro e w1 ⟨rfl, hd⟩)
    go_ret
    exact ⟨congrArg (fun z => Ending.returned (.bool z)) (by rw [HA.out]; simp), hd.below⟩

/-! ### impl_isSignal: function 79 -/
def impl_isSignal.f (l0 : List Int) : Option (Bool) := some (decide (l0.length ≤ 64) && l0.all (fun x => decide (-100000 ≤ x) && decide (x ≤ 100000)))
theorem isSignal_pred (w : World) : PredI 110 #[] (fun x => !(decide (-100000 ≤ x) && decide (x ≤ 100000))) w := fun W x _ => by
  show Calls Try.prog 110 #[.int .i64 x] W fun e w' => e = .returned (.bool (!(decide (-100000 ≤ x) && decide (x ≤ 100000)))) ∧ Below W.heap.size W w'
  have hin : impl_in.f x (-100000) 100000 = some (decide (-100000 ≤ x) && decide (x ≤ 100000)) := by
    unfold impl_in.f
    by_cases h : -100000 ≤ x <;> simp [h]
  have hc := impl_in.calls x (-100000) 100000 _ W hin
  clear hin
  generalize (decide (-100000 ≤ x) && decide (x ≤ 100000)) = b at hc ⊢
  go_enter Try.func110, Try.ntmps110
  go_wp2_with (go_at_call 59; refine hc.mono ?_; rintro e w1 ⟨rfl, hd⟩)
  go_ret
  exact ⟨rfl, hd.below⟩
set_option maxHeartbeats 2000000 in
theorem impl_isSignal.calls (A0 : Option Addr) (c0 : Nat) (l0 : List Int) (r : Bool) (w : World) (hr0 : Kd.C (Kd.int .i64) w A0 l0.length l0) (hc0 : l0.length ≤ c0) (h : impl_isSignal.f l0 = some r) :
    Calls Try.prog 79 #[.slice A0 l0.length c0] w fun e w' => e = .returned (.bool r) ∧ Below w.heap.size w w' := by
  have hi := slices_ContainsFunc_int _ 110 #[] (enters_ Try.func110 (by kernel_rfl) rfl) A0 c0 l0 w hr0 hc0 (isSignal_pred w)
  have HA : Aside0 (r = (decide (l0.length ≤ 64) && !(l0.any (fun x => !(decide (-100000 ≤ x) && decide (x ≤ 100000)))))) := ⟨by
    have := Option.some.inj h
    rw [← this, List.all_eq_not_any_not]⟩
  clear hr0 hc0 h
  generalize l0.any (fun x => !(decide (-100000 ≤ x) && decide (x ≤ 100000))) = b at hi HA
  by_cases hl : l0.length ≤ 64
  · have hl1 : decide ((l0.length : Int) ≤ 64) = true := decide_eq_true (by omega)
    have hl2 : decide (l0.length ≤ 64) = true := decide_eq_true hl
    rw [hl2] at HA
    go_enter Try.func79, Try.ntmps79
    go_wp2_with (go_at_call 104; refine hi.mono ?_; rintro e w1 ⟨rfl, hb1⟩)
    go_ret
    exact ⟨congrArg (fun z => Ending.returned (.bool z)) (by rw [HA.out]; simp), hb1⟩
  · have hl1 : decide ((l0.length : Int) ≤ 64) = false := decide_eq_false (by omega)
    have hl2 : decide (l0.length ≤ 64) = false := decide_eq_false hl
    rw [hl2] at HA
    clear hi
    go_enter Try.func79, Try.ntmps79
    go_wp2
    go_ret
    exact ⟨congrArg (fun z => Ending.returned (.bool z)) (by rw [HA.out]; simp), Below.refl _ _⟩

/-! ### impl_isWord: function 80 -/
def impl_isWord.f (a0_0 : Int) (a0_1 : Bool) : Option (Bool) := (impl_in.f a0_0 2 16).bind fun t281 => (some t281)
set_option maxHeartbeats 80000000 in
set_option maxRecDepth 100000 in
theorem impl_isWord.calls (a0_0 : Int) (a0_1 : Bool) (r : Bool) (w : World) (h : impl_isWord.f a0_0 a0_1 = some r) :
  Calls Try.prog 80 #[.agg #[.int .i64 a0_0, .bool a0_1]] w fun e w' => e = .returned (.bool r) ∧ Below w.heap.size w w' := by
 have hu44 := Try.underlying44
 have HB := Aside0.mk (Below.refl w.heap.size w)
 have H : ((impl_in.f a0_0 2 16).bind fun t281 => (some t281)) = some r := h
 clear h
 replace H := Option.bind_eq_some_iff.mp H
 obtain ⟨t281, A20, H⟩ := H
 replace H : (some t281) = some r := H
 have A2 := Aside0.mk A20
 clear A20
 obtain rfl := Option.some.inj H
 go_enter Try.func80, Try.ntmps80
 go_wp2_with (first | ((with_reducible refine gate_dst (N := 1) rfl ?_); refine box_event ?hg (N := 1) ?hd (cs := #[.int .i64 a0_0, .bool a0_1]) (t := 44) ?hr ?_; (case hd => rfl); (case hg => rfl); (case hr => first | (go_simp; done) | (go_simp; rfl)); intro gb280 hg w3 hbox hb; have n0_ := Aside0.mk (below_step (by repeat (first | (with_reducible first | exact HB.out | apply below_alloc | apply pw_below_drewN | apply below_drew1) | exact HB.out)) hb); have n1_ := Aside0.mk (hbox); have n2_ := Aside0.mk ((by rw [hg]; exact (below_size (by repeat (first | (with_reducible first | exact HB.out | apply below_alloc | apply pw_below_drewN | apply below_drew1) | exact HB.out))) : w.heap.size ≤ gb280)); have n3_ := Aside0.mk ((by rw [hg]; exact (below_size (by repeat (first | (with_reducible first | exact HB.out | apply below_alloc | apply pw_below_drewN | apply below_drew1) | exact HB.out))) : w.heap.size ≤ gb280)); clear HB; have HB := n0_; have BK280 := n1_; have GW280 := n2_; have GE280 := n3_; clear n0_ n1_ n2_ n3_; clear hb hbox hg; have hcz4_0 : w3.cell? ⟨gb280, 0, none⟩ = some (.int .i64 a0_0) := (blk_cell BK280.out 0).trans rfl; have hcz4_1 : w3.cell? ⟨gb280, 1, none⟩ = some (.bool a0_1) := (blk_cell BK280.out 1).trans rfl; have hfz4_0 := blk_frozen BK280.out 0; have hfz4_1 := blk_frozen BK280.out 1) | ((with_reducible refine gate_callee (f := 59) rfl ?_); refine goesL_ (some 5) rfl rfl Try.func59 (by kernel_rfl) rfl #[.int .i64 a0_0, .int .i64 2, .int .i64 16] rfl (by (try simp only [List.map_toArray, List.map_cons, List.map_nil]); first | done | rfl | (simp only [List.length_drop, List.length_take]; rfl)) ?_; (with_reducible refine (impl_in.calls a0_0 2 16 t281 _ A2.out).mono ?_); rintro e w' ⟨rfl, ⟨nd, rfl⟩⟩; refine ⟨_, rfl, ?_⟩))
 go_ret
 exact ⟨by first | rfl | (simp [errW_none, errW_some] <;> rfl) | (simp [*, errW_none, errW_some] <;> rfl), by repeat (first | (with_reducible first | exact HB.out | apply below_alloc | apply pw_below_drewN | apply below_drew1 | refine below_set ?_ GE280.out) | exact HB.out)⟩

/-! ### impl_Word_ends: function 81 -/
def impl_Word_ends.f (a0_0 : Int) (a0_1 : Bool) : Option (Int × Int) := if 0 ≤ (wrap64 (a0_0 - 1)) then (some (wrap64 (-(shl .i64 1 (wrap64 (a0_0 - 1)))), wrap64 ((shl .i64 1 (wrap64 (a0_0 - 1))) - 1))) else (none)
set_option maxHeartbeats 80000000 in
set_option maxRecDepth 100000 in
theorem impl_Word_ends.calls (a0_0 : Int) (a0_1 : Bool) (r1 : Int) (r2 : Int) (w : World) (h : impl_Word_ends.f a0_0 a0_1 = some (r1, r2)) :
  Calls Try.prog 81 #[.agg #[.int .i64 a0_0, .bool a0_1]] w fun e w' => e = .returned (.tuple #[.int .i64 r1, .int .i64 r2]) ∧ Below w.heap.size w w' := by
 have hu44 := Try.underlying44
 have HB := Aside0.mk (Below.refl w.heap.size w)
 have H : (if 0 ≤ (wrap64 (a0_0 - 1)) then (some (wrap64 (-(shl .i64 1 (wrap64 (a0_0 - 1)))), wrap64 ((shl .i64 1 (wrap64 (a0_0 - 1))) - 1))) else (none)) = some (r1, r2) := h
 clear h
 obtain ⟨ji2, hji2⟩ : ∃ j_ : Int, (wrap64 (a0_0 - 1)) = j_ := ⟨_, rfl⟩
 replace H : (if 0 ≤ (ji2) then (some (wrap64 (-(shl .i64 1 (ji2))), wrap64 ((shl .i64 1 (ji2)) - 1))) else (none)) = some (r1, r2) := by first | (rw [hji2] at H; exact H) | (simp only [hji2] at H ⊢; exact H)
 have hji2w : (IntKind.i64.wrap (a0_0 - 1)) = ji2 := (i64_w _).trans hji2
 by_cases c3 : 0 ≤ (ji2)
 ·rw [if_pos c3] at H
  have c3b0 := eq_true c3
  have c3b1 : decide (0 ≤ (ji2)) = true := decide_eq_true c3
  clear c3
  obtain ⟨ji4, hji4⟩ : ∃ j_ : Int, (shl .i64 1 (ji2)) = j_ := ⟨_, rfl⟩
  replace H : (some (wrap64 (-(ji4)), wrap64 ((ji4) - 1))) = some (r1, r2) := by first | (rw [hji4] at H; exact H) | (simp only [hji4] at H ⊢; exact H)
  have hji4_ : (IntKind.i64.wrap (1 * 2 ^ min (ji2).toNat 64)) = ji4 := hji4
  have hji4z : (ji2) ≤ 64 → (IntKind.i64.wrap (1 * 2 ^ (ji2).toNat)) = ji4 := shl_small hji4
  have hji4u : (IntKind.i64.wrap (2 ^ min (ji2).toNat 64)) = ji4 := by have h_ := hji4_; rw [Int.one_mul] at h_; exact h_
  have hji4v : (ji2) ≤ 64 → (IntKind.i64.wrap (2 ^ (ji2).toNat)) = ji4 := fun hle_ => by have h_ := hji4z hle_; rw [Int.one_mul] at h_; exact h_
  have hji4y : (wrap64 (1 * 2 ^ min (ji2).toNat 64)) = ji4 := (i64_w _).symm.trans hji4_
  have hji4x : (ji2) ≤ 64 → (wrap64 (1 * 2 ^ (ji2).toNat)) = ji4 := fun h_ => (i64_w _).symm.trans (hji4z h_)
  simp only [Option.some.injEq, Prod.mk.injEq] at H
  obtain ⟨rfl, rfl⟩ := H
  go_enter Try.func81, Try.ntmps81
  go_wp2_with (first | ((with_reducible refine gate_dst (N := 1) rfl ?_); refine box_event ?hg (N := 1) ?hd (cs := #[.int .i64 a0_0, .bool a0_1]) (t := 44) ?hr ?_; (case hd => rfl); (case hg => rfl); (case hr => first | (go_simp; done) | (go_simp; rfl)); intro gb282 hg w5 hbox hb; have n0_ := Aside0.mk (below_step (by repeat (first | (with_reducible first | exact HB.out | apply below_alloc | apply pw_below_drewN | apply below_drew1) | exact HB.out)) hb); have n1_ := Aside0.mk (hbox); have n2_ := Aside0.mk ((by rw [hg]; exact (below_size (by repeat (first | (with_reducible first | exact HB.out | apply below_alloc | apply pw_below_drewN | apply below_drew1) | exact HB.out))) : w.heap.size ≤ gb282)); have n3_ := Aside0.mk ((by rw [hg]; exact (below_size (by repeat (first | (with_reducible first | exact HB.out | apply below_alloc | apply pw_below_drewN | apply below_drew1) | exact HB.out))) : w.heap.size ≤ gb282)); clear HB; have HB := n0_; have BK282 := n1_; have GW282 := n2_; have GE282 := n3_; clear n0_ n1_ n2_ n3_; clear hb hbox hg; have hcz6_0 : w5.cell? ⟨gb282, 0, none⟩ = some (.int .i64 a0_0) := (blk_cell BK282.out 0).trans rfl; have hcz6_1 : w5.cell? ⟨gb282, 1, none⟩ = some (.bool a0_1) := (blk_cell BK282.out 1).trans rfl; have hfz6_0 := blk_frozen BK282.out 0; have hfz6_1 := blk_frozen BK282.out 1))
  go_ret2
  exact ⟨by first | rfl | (simp [errW_none, errW_some] <;> rfl) | (simp only [← hji2, ← hji4]; first | rfl | (simp [errW_none, errW_some] <;> rfl)) | (simp [*, errW_none, errW_some] <;> rfl), by repeat (first | (with_reducible first | exact HB.out | apply below_alloc | apply pw_below_drewN | apply below_drew1 | refine below_set ?_ GE282.out) | exact HB.out)⟩
 ·rw [if_neg c3] at H
  exact absurd H (by simp)

/-! ### impl_isShift: function 83 -/
def impl_isShift.f (a0 : Int) (a1 : Int) : Option (Bool) := (impl_in.f a0 0 20).bind fun t283 => (if t283 = true then ((impl_in.f a1 0 2).bind fun t284 => (some t284)) else (some false))
set_option maxHeartbeats 80000000 in
set_option maxRecDepth 100000 in
theorem impl_isShift.calls (a0 : Int) (a1 : Int) (r : Bool) (w : World) (h : impl_isShift.f a0 a1 = some r) :
  Calls Try.prog 83 #[.int .i64 a0, .int .i64 a1] w fun e w' => e = .returned (.bool r) ∧ Drawn0 w w' := by
 have H : ((impl_in.f a0 0 20).bind fun t283 => (if t283 = true then ((impl_in.f a1 0 2).bind fun t284 => (some t284)) else (some false))) = some r := h
 clear h
 replace H := Option.bind_eq_some_iff.mp H
 obtain ⟨t283, A30, H⟩ := H
 replace H : (if t283 = true then ((impl_in.f a1 0 2).bind fun t284 => (some t284)) else (some false)) = some r := H
 have A3 := Aside0.mk A30
 clear A30
 by_cases c4 : t283 = true
 ·subst c4
  have H1 : ((impl_in.f a1 0 2).bind fun t284 => (some t284)) = some r := by rw [if_pos rfl] at H; exact H
  clear H
  have H := H1
  clear H1
  replace H := Option.bind_eq_some_iff.mp H
  obtain ⟨t284, A50, H⟩ := H
  replace H : (some t284) = some r := H
  have A5 := Aside0.mk A50
  clear A50
  obtain rfl := Option.some.inj H
  go_enter Try.func83, Try.ntmps83
  go_wp2_with (first | ((with_reducible refine gate_callee (f := 59) rfl ?_); refine goesL_ (some 6) rfl rfl Try.func59 (by kernel_rfl) rfl #[.int .i64 a0, .int .i64 0, .int .i64 20] rfl (by (try simp only [List.map_toArray, List.map_cons, List.map_nil]); first | done | rfl | (simp only [List.length_drop, List.length_take]; rfl)) ?_; (with_reducible refine (impl_in.calls a0 0 20 true _ A3.out).mono ?_); rintro e w' ⟨rfl, ⟨nd, rfl⟩⟩; refine ⟨_, rfl, ?_⟩) | (go_at_call 59; (with_reducible refine (impl_in.calls a1 0 2 t284 _ A5.out).mono ?_); rintro e w' ⟨rfl, ⟨nd, rfl⟩⟩))
  go_ret
  exact ⟨by first | rfl | (simp; done) | (simp [*]; done), by repeat (first | exact Drawn0.refl _ | apply Drawn0.step)⟩
 ·replace c4 := Bool.eq_false_iff.mpr c4
  subst c4
  have H1 : (some false) = some r := by rw [if_neg (show ¬ (false = true) by decide)] at H; exact H
  clear H
  have H := H1
  clear H1
  obtain rfl := Option.some.inj H
  go_enter Try.func83, Try.ntmps83
  go_wp2_with (first | ((with_reducible refine gate_callee (f := 59) rfl ?_); refine goesL_ (some 6) rfl rfl Try.func59 (by kernel_rfl) rfl #[.int .i64 a0, .int .i64 0, .int .i64 20] rfl (by (try simp only [List.map_toArray, List.map_cons, List.map_nil]); first | done | rfl | (simp only [List.length_drop, List.length_take]; rfl)) ?_; (with_reducible refine (impl_in.calls a0 0 20 false _ A3.out).mono ?_); rintro e w' ⟨rfl, ⟨nd, rfl⟩⟩; refine ⟨_, rfl, ?_⟩))
  go_ret
  exact ⟨by first | rfl | (simp; done) | (simp [*]; done), by repeat (first | exact Drawn0.refl _ | apply Drawn0.step)⟩

/-! ### impl_inWord: function 70 -/
/-- whether a number lies in a word -/
def hasB (b : Int) (x : Int) : Bool := decide (wrap64 (-(shl .i64 1 (wrap64 (b - 1)))) ≤ x) && decide (x ≤ wrap64 ((shl .i64 1 (wrap64 (b - 1))) - 1))
theorem has_calls (a0_0 : Int) (a0_1 : Bool) (x : Int) (hb : 0 ≤ wrap64 (a0_0 - 1)) (w : World) :
    Calls Try.prog 103 #[.agg #[.int .i64 a0_0, .bool a0_1], .int .i64 x] w fun e w' => e = .returned (.bool (hasB a0_0 x)) ∧ Below w.heap.size w w' := by
  have hends : impl_Word_ends.f a0_0 a0_1 = some (wrap64 (-(shl .i64 1 (wrap64 (a0_0 - 1)))), wrap64 ((shl .i64 1 (wrap64 (a0_0 - 1))) - 1)) := by unfold impl_Word_ends.f; rw [if_pos hb]
  unfold hasB
  generalize wrap64 (-(shl .i64 1 (wrap64 (a0_0 - 1)))) = lo at hends ⊢
  generalize wrap64 ((shl .i64 1 (wrap64 (a0_0 - 1))) - 1) = hi at hends ⊢
  have hin : impl_in.f x lo hi = some (decide (lo ≤ x) && decide (x ≤ hi)) := by
    unfold impl_in.f
    by_cases h : lo ≤ x <;> simp [h]
  generalize (decide (lo ≤ x) && decide (x ≤ hi)) = b at hin ⊢
  have HE := Aside0.mk (fun w => impl_Word_ends.calls a0_0 a0_1 lo hi w hends)
  have HI := Aside0.mk (fun w => impl_in.calls x lo hi b w hin)
  clear hends hin hb
  go_enter Try.func103, Try.ntmps103
  go_wp2_with (first | ((with_reducible refine gate_dst (N := 2) rfl ?_); refine box_event ?hg (N := 2) ?hd (cs := #[.int .i64 a0_0, .bool a0_1]) (t := 44) ?hr ?_; (case hd => rfl); (case hg => rfl); (case hr => first | (go_simp; done) | (go_simp; rfl)); intro gb hgb w6 hbox hb6; have c0 : w6.cell? ⟨gb, 0, none⟩ = some (.int .i64 a0_0) := (blk_cell hbox 0).trans rfl; have c1 : w6.cell? ⟨gb, 1, none⟩ = some (.bool a0_1) := (blk_cell hbox 1).trans rfl; have HB := Aside0.mk hb6; have HG := Aside0.mk (hgb ▸ (by have := below_size hb6; have := blk_lt hbox; omega) : gb < w6.heap.size); clear hbox hb6 hgb) | (go_at_call 81; refine (HE.out _).mono ?_; rintro e w8 ⟨rfl, hb8⟩; have HB8 := Aside0.mk hb8; clear hb8) | (go_at_call 59; refine (HI.out _).mono ?_; rintro e w9 ⟨rfl, hd9⟩; have HD9 := Aside0.mk hd9; clear hd9))
  go_ret
  exact ⟨rfl, below_step (below_step HB.out HB8.out) HD9.out.below⟩
theorem inWord_pred (a0_0 : Int) (a0_1 : Bool) (g : Nat) (w : World) (hc0 : w.cell? ⟨g, 0, none⟩ = some (.int .i64 a0_0)) (hc1 : w.cell? ⟨g, 1, none⟩ = some (.bool a0_1)) (hg : g < w.heap.size) (hb : 0 ≤ wrap64 (a0_0 - 1)) :
    PredI 102 #[.pointer (some ⟨g, 0, none⟩)] (fun x => !(hasB a0_0 x)) w := fun W x hB => by
  show Calls Try.prog 102 #[.int .i64 x, .pointer (some ⟨g, 0, none⟩)] W fun e w' => e = .returned (.bool (!(hasB a0_0 x))) ∧ Below W.heap.size W w'
  have c0 : W.cell? ⟨g, 0, none⟩ = some (.int .i64 a0_0) := (hB.cell (p := ⟨g, 0, none⟩) hg).trans hc0
  have c1 : W.cell? ⟨g, 1, none⟩ = some (.bool a0_1) := (hB.cell (p := ⟨g, 1, none⟩) hg).trans hc1
  have hc := has_calls a0_0 a0_1 x hb W
  generalize hasB a0_0 x = b at hc ⊢
  clear hc0 hc1 hB hg hb
  go_enter Try.func102, Try.ntmps102
  go_wp2_with (go_at_call 103; refine hc.mono ?_; rintro e w1 ⟨rfl, hd⟩)
  go_ret
  exact ⟨rfl, hd⟩

def impl_inWord.f (a0_0 : Int) (a0_1 : Bool) (l1 : List Int) (l2 : List Int) (a3 : Int) (a4 : Int) : Option Bool := (impl_isWord.f a0_0 a0_1).bind fun b1 => if b1 = true then (impl_isWeights.f l1).bind fun b2 => (if b2 = true then (impl_isSignal.f l2).bind fun b3 => (if b3 = true then (impl_isShift.f a3 a4).bind fun b4 => (if b4 = true then some (l1.all (hasB a0_0) && l2.all (hasB a0_0)) else some false) else some false) else some false) else some false
theorem isWord_bits {a : Int} {b : Bool} (h : impl_isWord.f a b = some true) : 0 ≤ wrap64 (a - 1) := by
  unfold impl_isWord.f impl_in.f at h
  by_cases h1 : 2 ≤ a
  · by_cases h2 : a ≤ 16
    · have : wrap64 (a - 1) = a - 1 := by unfold wrap64; omega
      omega
    · simp [h1, h2] at h
  · simp [h1] at h
set_option maxHeartbeats 8000000 in
theorem impl_inWord.calls (a0_0 : Int) (a0_1 : Bool) (A1 : Option Addr) (c1 : Nat) (l1 : List Int) (A2 : Option Addr) (c2 : Nat) (l2 : List Int) (a3 : Int) (a4 : Int) (r : Bool) (w : World) (hr1 : Kd.C (Kd.int .i64) w A1 l1.length l1) (hc1 : l1.length ≤ c1) (hr2 : Kd.C (Kd.int .i64) w A2 l2.length l2) (hc2 : l2.length ≤ c2) (h : impl_inWord.f a0_0 a0_1 l1 l2 a3 a4 = some r) :
    Calls Try.prog 70 #[.agg #[.int .i64 a0_0, .bool a0_1], .slice A1 l1.length c1, .slice A2 l2.length c2, .int .i64 a3, .int .i64 a4] w fun e w' => e = .returned (.bool r) ∧ Below w.heap.size w w' := by
  obtain ⟨b1, e1, h⟩ := Option.bind_eq_some_iff.mp h
  have H1 := Aside0.mk (fun w => impl_isWord.calls a0_0 a0_1 b1 w e1)
  have HR1 := Aside0.mk hr1
  have HR2 := Aside0.mk hr2
  have HC1 := Aside0.mk hc1
  have HC2 := Aside0.mk hc2
  clear hr1 hr2 hc1 hc2
  cases b1 with
  | false =>
    obtain rfl := Option.some.inj h
    clear h HR1 HR2 HC1 HC2
    go_enter Try.func70, Try.ntmps70
    go_wp2_with (first | ((with_reducible refine gate_dst (N := 5) rfl ?_); refine box_event ?hg (N := 5) ?hd (cs := #[.int .i64 a0_0, .bool a0_1]) (t := 44) ?hr ?_; (case hd => rfl); (case hg => rfl); (case hr => first | (go_simp; done) | (go_simp; rfl)); intro gb hgb w6 hbox hb6; have c0 : w6.cell? ⟨gb, 0, none⟩ = some (.int .i64 a0_0) := (blk_cell hbox 0).trans rfl; have c1 : w6.cell? ⟨gb, 1, none⟩ = some (.bool a0_1) := (blk_cell hbox 1).trans rfl; have HB := Aside0.mk hb6; have HG := Aside0.mk (blk_lt hbox : gb < w6.heap.size); clear hbox hb6 hgb) | (go_at_call 80; refine (H1.out _).mono ?_; rintro e v1 ⟨rfl, hz⟩; have HB1 := Aside0.mk (below_step HB.out hz); clear HB; have HB := HB1; clear HB1 hz))
    go_ret
    exact ⟨rfl, HB.out⟩
  | true =>
  replace h := h
  rw [if_pos rfl] at h
  have HW := Aside0.mk (isWord_bits e1)
  obtain ⟨b2, e2, h⟩ := Option.bind_eq_some_iff.mp h
  have H2 : Aside0 (∀ w', Below w.heap.size w w' → Calls Try.prog 78 #[.slice A1 l1.length c1] w' fun e w2 => e = .returned (.bool b2) ∧ Below w'.heap.size w' w2) := ⟨fun w' hb => impl_isWeights.calls A1 c1 l1 b2 w' (Kd.C_below HR1.out hb) HC1.out e2⟩
  cases b2 with
  | false =>
    obtain rfl := Option.some.inj h
    clear h HR1 HR2 HC1 HC2 HW e1 e2
    go_enter Try.func70, Try.ntmps70
    go_wp2_with (first | ((with_reducible refine gate_dst (N := 5) rfl ?_); refine box_event ?hg (N := 5) ?hd (cs := #[.int .i64 a0_0, .bool a0_1]) (t := 44) ?hr ?_; (case hd => rfl); (case hg => rfl); (case hr => first | (go_simp; done) | (go_simp; rfl)); intro gb hgb w6 hbox hb6; have c0 : w6.cell? ⟨gb, 0, none⟩ = some (.int .i64 a0_0) := (blk_cell hbox 0).trans rfl; have c1 : w6.cell? ⟨gb, 1, none⟩ = some (.bool a0_1) := (blk_cell hbox 1).trans rfl; have HB := Aside0.mk hb6; have HG := Aside0.mk (blk_lt hbox : gb < w6.heap.size); clear hbox hb6 hgb) | (go_at_call 80; refine (H1.out _).mono ?_; rintro e v1 ⟨rfl, hz⟩; have HB1 := Aside0.mk (below_step HB.out hz); clear HB; have HB := HB1; clear HB1 hz) | (go_at_call 78; refine (H2.out _ HB.out).mono ?_; rintro e v2 ⟨rfl, hz⟩; have HB2 := Aside0.mk (below_step HB.out hz); clear HB; have HB := HB2; clear HB2 hz))
    go_ret
    exact ⟨rfl, HB.out⟩
  | true =>
  rw [if_pos rfl] at h
  obtain ⟨b3, e3, h⟩ := Option.bind_eq_some_iff.mp h
  have H3 : Aside0 (∀ w', Below w.heap.size w w' → Calls Try.prog 79 #[.slice A2 l2.length c2] w' fun e w2 => e = .returned (.bool b3) ∧ Below w'.heap.size w' w2) := ⟨fun w' hb => impl_isSignal.calls A2 c2 l2 b3 w' (Kd.C_below HR2.out hb) HC2.out e3⟩
  cases b3 with
  | false =>
    obtain rfl := Option.some.inj h
    clear h HR1 HR2 HC1 HC2 HW e1 e2 e3
    go_enter Try.func70, Try.ntmps70
    go_wp2_with (first | ((with_reducible refine gate_dst (N := 5) rfl ?_); refine box_event ?hg (N := 5) ?hd (cs := #[.int .i64 a0_0, .bool a0_1]) (t := 44) ?hr ?_; (case hd => rfl); (case hg => rfl); (case hr => first | (go_simp; done) | (go_simp; rfl)); intro gb hgb w6 hbox hb6; have c0 : w6.cell? ⟨gb, 0, none⟩ = some (.int .i64 a0_0) := (blk_cell hbox 0).trans rfl; have c1 : w6.cell? ⟨gb, 1, none⟩ = some (.bool a0_1) := (blk_cell hbox 1).trans rfl; have HB := Aside0.mk hb6; have HG := Aside0.mk (blk_lt hbox : gb < w6.heap.size); clear hbox hb6 hgb) | (go_at_call 80; refine (H1.out _).mono ?_; rintro e v1 ⟨rfl, hz⟩; have HB1 := Aside0.mk (below_step HB.out hz); clear HB; have HB := HB1; clear HB1 hz) | (go_at_call 78; refine (H2.out _ HB.out).mono ?_; rintro e v2 ⟨rfl, hz⟩; have HB2 := Aside0.mk (below_step HB.out hz); clear HB; have HB := HB2; clear HB2 hz) | (go_at_call 79; refine (H3.out _ HB.out).mono ?_; rintro e v3 ⟨rfl, hz⟩; have HB3 := Aside0.mk (below_step HB.out hz); clear HB; have HB := HB3; clear HB3 hz))
    go_ret
    exact ⟨rfl, HB.out⟩
  | true =>
  rw [if_pos rfl] at h
  obtain ⟨b4, e4, h⟩ := Option.bind_eq_some_iff.mp h
  have H4 := Aside0.mk (fun w => impl_isShift.calls a3 a4 b4 w e4)
  cases b4 with
  | false =>
    obtain rfl := Option.some.inj h
    clear h HR1 HR2 HC1 HC2 HW e1 e2 e3 e4
    go_enter Try.func70, Try.ntmps70
    go_wp2_with (first | ((with_reducible refine gate_dst (N := 5) rfl ?_); refine box_event ?hg (N := 5) ?hd (cs := #[.int .i64 a0_0, .bool a0_1]) (t := 44) ?hr ?_; (case hd => rfl); (case hg => rfl); (case hr => first | (go_simp; done) | (go_simp; rfl)); intro gb hgb w6 hbox hb6; have c0 : w6.cell? ⟨gb, 0, none⟩ = some (.int .i64 a0_0) := (blk_cell hbox 0).trans rfl; have c1 : w6.cell? ⟨gb, 1, none⟩ = some (.bool a0_1) := (blk_cell hbox 1).trans rfl; have HB := Aside0.mk hb6; have HG := Aside0.mk (blk_lt hbox : gb < w6.heap.size); clear hbox hb6 hgb) | (go_at_call 80; refine (H1.out _).mono ?_; rintro e v1 ⟨rfl, hz⟩; have HB1 := Aside0.mk (below_step HB.out hz); clear HB; have HB := HB1; clear HB1 hz) | (go_at_call 78; refine (H2.out _ HB.out).mono ?_; rintro e v2 ⟨rfl, hz⟩; have HB2 := Aside0.mk (below_step HB.out hz); clear HB; have HB := HB2; clear HB2 hz) | (go_at_call 79; refine (H3.out _ HB.out).mono ?_; rintro e v3 ⟨rfl, hz⟩; have HB3 := Aside0.mk (below_step HB.out hz); clear HB; have HB := HB3; clear HB3 hz) | (go_at_call 83; refine (H4.out _).mono ?_; rintro e v4 ⟨rfl, hz⟩; have HB4 := Aside0.mk (below_step HB.out hz.below); clear HB; have HB := HB4; clear HB4 hz))
    go_ret
    exact ⟨rfl, HB.out⟩
  | true =>
  rw [if_pos rfl] at h
  have HA : Aside0 (r = (!(l1.any (fun x => !(hasB a0_0 x))) && !(l2.any (fun x => !(hasB a0_0 x))))) := ⟨by
    have := Option.some.inj h
    rw [← this, List.all_eq_not_any_not, List.all_eq_not_any_not]⟩
  have H5 : Aside0 (∀ (g : Nat) (v w' : World), Below w.heap.size w v → v.cell? ⟨g, 0, none⟩ = some (.int .i64 a0_0) → v.cell? ⟨g, 1, none⟩ = some (.bool a0_1) → g < v.heap.size → Below v.heap.size v w' → ∀ (A : Option Addr) (l : List Int) (c : Nat), Kd.C (Kd.int .i64) w A l.length l → l.length ≤ c →
      Calls Try.prog 104 #[.slice A l.length c, .func (.func 102) #[] #[.pointer (some ⟨g, 0, none⟩)]] w' fun e w2 => e = .returned (.bool (l.any (fun x => !(hasB a0_0 x)))) ∧ Below w'.heap.size w' w2) :=
    ⟨fun g v w' hv hc0 hc1 hg hb A l c hr hc => slices_ContainsFunc_int _ 102 #[.pointer (some ⟨g, 0, none⟩)] (enters_ Try.func102 (by kernel_rfl) rfl) A c l w' (Kd.C_below hr (below_step hv hb)) hc (inWord_pred a0_0 a0_1 g w' ((hb.cell (p := ⟨g, 0, none⟩) hg).trans hc0) ((hb.cell (p := ⟨g, 1, none⟩) hg).trans hc1) (Nat.lt_of_lt_of_le hg (below_size hb)) HW.out)⟩
  have K1 := Aside0.mk (fun g v w' h1 h2 h3 h4 h5 => H5.out g v w' h1 h2 h3 h4 h5 A1 l1 c1 HR1.out HC1.out)
  have K2 := Aside0.mk (fun g v w' h1 h2 h3 h4 h5 => H5.out g v w' h1 h2 h3 h4 h5 A2 l2 c2 HR2.out HC2.out)
  clear h HR1 HR2 HC1 HC2 HW e1 e2 e3 e4 H5
  generalize l1.any (fun x => !(hasB a0_0 x)) = b5 at K1 HA
  generalize l2.any (fun x => !(hasB a0_0 x)) = b6 at K2 HA
  cases b5 with
  | true =>
    clear K2
    go_enter Try.func70, Try.ntmps70
    go_wp2_with (first | ((with_reducible refine gate_dst (N := 5) rfl ?_); refine box_event ?hg (N := 5) ?hd (cs := #[.int .i64 a0_0, .bool a0_1]) (t := 44) ?hr ?_; (case hd => rfl); (case hg => rfl); (case hr => first | (go_simp; done) | (go_simp; rfl)); intro gb hgb w6 hbox hb6; have c0 : w6.cell? ⟨gb, 0, none⟩ = some (.int .i64 a0_0) := (blk_cell hbox 0).trans rfl; have c1 : w6.cell? ⟨gb, 1, none⟩ = some (.bool a0_1) := (blk_cell hbox 1).trans rfl; have HB := Aside0.mk hb6; have HV := Aside0.mk (Below.refl w6.heap.size w6); have HG := Aside0.mk (blk_lt hbox : gb < w6.heap.size); have HB0 := Aside0.mk hb6; have C0 := Aside0.mk c0; have C1 := Aside0.mk c1; clear hbox hb6 hgb) | (go_at_call 80; refine (H1.out _).mono ?_; rintro e v1 ⟨rfl, hz⟩; have HB1 := Aside0.mk (below_step HB.out hz); have HV1 := Aside0.mk (below_step HV.out hz); clear HB HV; have HB := HB1; have HV := HV1; clear HB1 HV1 hz) | (go_at_call 78; refine (H2.out _ HB.out).mono ?_; rintro e v2 ⟨rfl, hz⟩; have HB2 := Aside0.mk (below_step HB.out hz); have HV2 := Aside0.mk (below_step HV.out hz); clear HB HV; have HB := HB2; have HV := HV2; clear HB2 HV2 hz) | (go_at_call 79; refine (H3.out _ HB.out).mono ?_; rintro e v3 ⟨rfl, hz⟩; have HB3 := Aside0.mk (below_step HB.out hz); have HV3 := Aside0.mk (below_step HV.out hz); clear HB HV; have HB := HB3; have HV := HV3; clear HB3 HV3 hz) | (go_at_call 83; refine (H4.out _).mono ?_; rintro e v4 ⟨rfl, hz⟩; have HB4 := Aside0.mk (below_step HB.out hz.below); have HV4 := Aside0.mk (below_step HV.out hz.below); clear HB HV; have HB := HB4; have HV := HV4; clear HB4 HV4 hz) | (go_at_call 104; refine (K1.out gb w6 _ HB0.out C0.out C1.out HG.out HV.out).mono ?_; rintro e v5 ⟨rfl, hz⟩; clear K1; have HB5 := Aside0.mk (below_step HB.out hz); have HV5 := Aside0.mk (below_step HV.out hz); clear HB HV; have HB := HB5; have HV := HV5; clear HB5 HV5 hz))
    go_ret
    exact ⟨congrArg (fun z => Ending.returned (.bool z)) (by rw [HA.out]; simp), HB.out⟩
  | false =>
    go_enter Try.func70, Try.ntmps70
    go_wp2_with (first | ((with_reducible refine gate_dst (N := 5) rfl ?_); refine box_event ?hg (N := 5) ?hd (cs := #[.int .i64 a0_0, .bool a0_1]) (t := 44) ?hr ?_; (case hd => rfl); (case hg => rfl); (case hr => first | (go_simp; done) | (go_simp; rfl)); intro gb hgb w6 hbox hb6; have c0 : w6.cell? ⟨gb, 0, none⟩ = some (.int .i64 a0_0) := (blk_cell hbox 0).trans rfl; have c1 : w6.cell? ⟨gb, 1, none⟩ = some (.bool a0_1) := (blk_cell hbox 1).trans rfl; have HB := Aside0.mk hb6; have HV := Aside0.mk (Below.refl w6.heap.size w6); have HG := Aside0.mk (blk_lt hbox : gb < w6.heap.size); have HB0 := Aside0.mk hb6; have C0 := Aside0.mk c0; have C1 := Aside0.mk c1; clear hbox hb6 hgb) | (go_at_call 80; refine (H1.out _).mono ?_; rintro e v1 ⟨rfl, hz⟩; have HB1 := Aside0.mk (below_step HB.out hz); have HV1 := Aside0.mk (below_step HV.out hz); clear HB HV; have HB := HB1; have HV := HV1; clear HB1 HV1 hz) | (go_at_call 78; refine (H2.out _ HB.out).mono ?_; rintro e v2 ⟨rfl, hz⟩; have HB2 := Aside0.mk (below_step HB.out hz); have HV2 := Aside0.mk (below_step HV.out hz); clear HB HV; have HB := HB2; have HV := HV2; clear HB2 HV2 hz) | (go_at_call 79; refine (H3.out _ HB.out).mono ?_; rintro e v3 ⟨rfl, hz⟩; have HB3 := Aside0.mk (below_step HB.out hz); have HV3 := Aside0.mk (below_step HV.out hz); clear HB HV; have HB := HB3; have HV := HV3; clear HB3 HV3 hz) | (go_at_call 83; refine (H4.out _).mono ?_; rintro e v4 ⟨rfl, hz⟩; have HB4 := Aside0.mk (below_step HB.out hz.below); have HV4 := Aside0.mk (below_step HV.out hz.below); clear HB HV; have HB := HB4; have HV := HV4; clear HB4 HV4 hz) | (go_at_call 104; refine (K1.out gb w6 _ HB0.out C0.out C1.out HG.out HV.out).mono ?_; rintro e v5 ⟨rfl, hz⟩; clear K1; have HB5 := Aside0.mk (below_step HB.out hz); have HV5 := Aside0.mk (below_step HV.out hz); clear HB HV; have HB := HB5; have HV := HV5; clear HB5 HV5 hz) | (go_at_call 104; refine (K2.out gb w6 _ HB0.out C0.out C1.out HG.out HV.out).mono ?_; rintro e v6 ⟨rfl, hz⟩; clear K2; have HB6 := Aside0.mk (below_step HB.out hz); have HV6 := Aside0.mk (below_step HV.out hz); clear HB HV; have HB := HB6; have HV := HV6; clear HB6 HV6 hz))
    go_ret
    exact ⟨congrArg (fun z => Ending.returned (.bool z)) (by rw [HA.out]; simp), HB.out⟩

/-! ### impl_mod: function 105 -/
def impl_mod.f (a0 : Int) (a1 : Int) : Option (Int) := if a1 = 0 then (none) else (some (Int.tmod (wrap64 ((Int.tmod a0 a1) + a1)) a1))
set_option maxHeartbeats 80000000 in
set_option maxRecDepth 100000 in
theorem impl_mod.calls (a0 : Int) (a1 : Int) (r : Int) (w : World) (h : impl_mod.f a0 a1 = some r) :
  Calls Try.prog 105 #[.int .i64 a0, .int .i64 a1] w fun e w' => e = .returned (.int .i64 r) ∧ Drawn0 w w' := by
 have H : (if a1 = 0 then (none) else (some (Int.tmod (wrap64 ((Int.tmod a0 a1) + a1)) a1))) = some r := h
 clear h
 by_cases c3 : a1 = 0
 ·rw [if_pos c3] at H
  exact absurd H (by simp)
 ·rw [if_neg c3] at H
  have c3b0 : (a1 == 0) = false := beq_eq_false_iff_ne.mpr c3
  have c3b1 : (a1 != 0) = true := bne_iff_ne.mpr c3
  obtain rfl := Option.some.inj H
  go_enter Try.func105, Try.ntmps105
  go_wp2
  go_ret
  exact ⟨by first | rfl | (simp; done) | (simp [*]; done), by repeat (first | exact Drawn0.refl _ | apply Drawn0.step)⟩

/-! ### impl_Word_fit: function 71 -/
def impl_Word_fit.f (a0_0 : Int) (a0_1 : Bool) (a1 : Int) : Option (Int) := (impl_Word_ends.f a0_0 a0_1).bind fun bt286 => (if a0_1 = true then ((impl_mod.f (wrap64 (a1 - bt286.1)) (wrap64 ((wrap64 (bt286.2 - bt286.1)) + 1))).bind fun t288 => (some (wrap64 (t288 + bt286.1)))) else (some (mn (mx a1 bt286.1) bt286.2)))
set_option maxHeartbeats 80000000 in
set_option maxRecDepth 100000 in
theorem impl_Word_fit.calls (a0_0 : Int) (a0_1 : Bool) (a1 : Int) (r : Int) (w : World) (h : impl_Word_fit.f a0_0 a0_1 a1 = some r) :
  Calls Try.prog 71 #[.agg #[.int .i64 a0_0, .bool a0_1], .int .i64 a1] w fun e w' => e = .returned (.int .i64 r) ∧ Below w.heap.size w w' := by
 have hu44 := Try.underlying44
 have HB := Aside0.mk (Below.refl w.heap.size w)
 have H : ((impl_Word_ends.f a0_0 a0_1).bind fun bt286 => (if a0_1 = true then ((impl_mod.f (wrap64 (a1 - bt286.1)) (wrap64 ((wrap64 (bt286.2 - bt286.1)) + 1))).bind fun t288 => (some (wrap64 (t288 + bt286.1)))) else (some (mn (mx a1 bt286.1) bt286.2)))) = some r := h
 clear h
 replace H := Option.bind_eq_some_iff.mp H
 obtain ⟨⟨t286, t287⟩, A30, H⟩ := H
 replace H : (if a0_1 = true then ((impl_mod.f (wrap64 (a1 - t286)) (wrap64 ((wrap64 (t287 - t286)) + 1))).bind fun t288 => (some (wrap64 (t288 + t286)))) else (some (mn (mx a1 t286) t287))) = some r := H
 have A3 := Aside0.mk A30
 clear A30
 by_cases c4 : a0_1 = true
 ·subst c4
  have H1 : ((impl_mod.f (wrap64 (a1 - t286)) (wrap64 ((wrap64 (t287 - t286)) + 1))).bind fun t288 => (some (wrap64 (t288 + t286)))) = some r := by rw [if_pos rfl] at H; exact H
  clear H
  have H := H1
  clear H1
  replace H := Option.bind_eq_some_iff.mp H
  obtain ⟨t288, A50, H⟩ := H
  replace H : (some (wrap64 (t288 + t286))) = some r := H
  have A5 := Aside0.mk A50
  clear A50
  obtain rfl := Option.some.inj H
  go_enter Try.func71, Try.ntmps71
  go_wp2_with (first | ((with_reducible refine gate_dst (N := 2) rfl ?_); refine box_event ?hg (N := 2) ?hd (cs := #[.int .i64 a0_0, .bool true]) (t := 44) ?hr ?_; (case hd => rfl); (case hg => rfl); (case hr => first | (go_simp; done) | (go_simp; rfl)); intro gb285 hg w6 hbox hb; have n0_ := Aside0.mk (below_step (by repeat (first | (with_reducible first | exact HB.out | apply below_alloc | apply pw_below_drewN | apply below_drew1) | exact HB.out)) hb); have n1_ := Aside0.mk (hbox); have n2_ := Aside0.mk ((by rw [hg]; exact (below_size (by repeat (first | (with_reducible first | exact HB.out | apply below_alloc | apply pw_below_drewN | apply below_drew1) | exact HB.out))) : w.heap.size ≤ gb285)); have n3_ := Aside0.mk ((by rw [hg]; exact (below_size (by repeat (first | (with_reducible first | exact HB.out | apply below_alloc | apply pw_below_drewN | apply below_drew1) | exact HB.out))) : w.heap.size ≤ gb285)); clear HB; have HB := n0_; have BK285 := n1_; have GW285 := n2_; have GE285 := n3_; clear n0_ n1_ n2_ n3_; clear hb hbox hg; have hcz7_0 : w6.cell? ⟨gb285, 0, none⟩ = some (.int .i64 a0_0) := (blk_cell BK285.out 0).trans rfl; have hcz7_1 : w6.cell? ⟨gb285, 1, none⟩ = some (.bool true) := (blk_cell BK285.out 1).trans rfl; have hfz7_0 := blk_frozen BK285.out 0; have hfz7_1 := blk_frozen BK285.out 1) | ((with_reducible refine gate_callee (f := 81) rfl ?_); refine goesL_ (some 9) rfl rfl Try.func81 (by kernel_rfl) rfl #[.agg #[.int .i64 a0_0, .bool true]] rfl (by (try simp only [List.map_toArray, List.map_cons, List.map_nil]); first | done | rfl | (simp only [List.length_drop, List.length_take]; rfl)) ?_; (with_reducible refine (impl_Word_ends.calls a0_0 true t286 t287 _ A3.out).mono ?_); rintro e w8 ⟨rfl, hb⟩; refine ⟨_, rfl, ?_⟩; have n0_ := Aside0.mk (blk_below (g := gb285) (o := .cells #[.int .i64 a0_0, .bool true] 44 (0, 0)) (by (with_reducible repeat (first | refine blk_drewN ?_ _ | refine blk_drew ?_ | refine blk_alloc ?_ _)); exact BK285.out) hb); have n1_ := Aside0.mk (below_step (by repeat (first | (with_reducible first | exact HB.out | apply below_alloc | apply pw_below_drewN | apply below_drew1 | refine below_set ?_ GE285.out) | exact HB.out)) hb); clear BK285; clear HB; have BK285 := n0_; have HB := n1_; clear n0_ n1_; (try clear hb); (try clear hb2); (try clear hk); (try clear hi); have hcz9_0 : w8.cell? ⟨gb285, 0, none⟩ = some (.int .i64 a0_0) := (blk_cell BK285.out 0).trans rfl; have hcz9_1 : w8.cell? ⟨gb285, 1, none⟩ = some (.bool true) := (blk_cell BK285.out 1).trans rfl; have hfz9_0 := blk_frozen BK285.out 0; have hfz9_1 := blk_frozen BK285.out 1) | ((with_reducible refine gate_callee (f := 105) rfl ?_); refine goesL_ (some 21) rfl rfl Try.func105 (by kernel_rfl) rfl #[.int .i64 (wrap64 (a1 - t286)), .int .i64 (wrap64 ((wrap64 (t287 - t286)) + 1))] rfl (by (try simp only [List.map_toArray, List.map_cons, List.map_nil]); first | done | rfl | (simp only [List.length_drop, List.length_take]; rfl)) ?_; (with_reducible refine (impl_mod.calls (wrap64 (a1 - t286)) (wrap64 ((wrap64 (t287 - t286)) + 1)) t288 _ A5.out).mono ?_); rintro e w' ⟨rfl, ⟨nd, rfl⟩⟩; refine ⟨_, rfl, ?_⟩))
  go_ret
  exact ⟨by first | rfl | (simp [errW_none, errW_some] <;> rfl) | (simp [*, errW_none, errW_some] <;> rfl), by repeat (first | (with_reducible first | exact HB.out | apply below_alloc | apply pw_below_drewN | apply below_drew1 | refine below_set ?_ GE285.out) | exact HB.out)⟩
 ·replace c4 := Bool.eq_false_iff.mpr c4
  subst c4
  have H1 : (some (mn (mx a1 t286) t287)) = some r := by rw [if_neg (show ¬ (false = true) by decide)] at H; exact H
  clear H
  have H := H1
  clear H1
  obtain ⟨ji10, hji10⟩ : ∃ j_ : Int, (mx a1 t286) = j_ := ⟨_, rfl⟩
  replace H : (some (mn (ji10) t287)) = some r := by first | (rw [hji10] at H; exact H) | (simp only [hji10] at H ⊢; exact H)
  (try rw [hji10] at A3)
  have hji10_ : (if a1 < t286 then t286 else a1) = ji10 := hji10
  obtain ⟨ji11, hji11⟩ : ∃ j_ : Int, (mn (ji10) t287) = j_ := ⟨_, rfl⟩
  replace H : (some ji11) = some r := by first | (rw [hji11] at H; exact H) | (simp only [hji11] at H ⊢; exact H)
  (try rw [hji11] at A3)
  have hji11_ : (if t287 < (ji10) then t287 else (ji10)) = ji11 := hji11
  obtain rfl := Option.some.inj H
  go_enter Try.func71, Try.ntmps71
  go_wp2_with (first | ((with_reducible refine gate_dst (N := 2) rfl ?_); refine box_event ?hg (N := 2) ?hd (cs := #[.int .i64 a0_0, .bool false]) (t := 44) ?hr ?_; (case hd => rfl); (case hg => rfl); (case hr => first | (go_simp; done) | (go_simp; rfl)); intro gb285 hg w12 hbox hb; have n0_ := Aside0.mk (below_step (by repeat (first | (with_reducible first | exact HB.out | apply below_alloc | apply pw_below_drewN | apply below_drew1) | exact HB.out)) hb); have n1_ := Aside0.mk (hbox); have n2_ := Aside0.mk ((by rw [hg]; exact (below_size (by repeat (first | (with_reducible first | exact HB.out | apply below_alloc | apply pw_below_drewN | apply below_drew1) | exact HB.out))) : w.heap.size ≤ gb285)); have n3_ := Aside0.mk ((by rw [hg]; exact (below_size (by repeat (first | (with_reducible first | exact HB.out | apply below_alloc | apply pw_below_drewN | apply below_drew1) | exact HB.out))) : w.heap.size ≤ gb285)); clear HB; have HB := n0_; have BK285 := n1_; have GW285 := n2_; have GE285 := n3_; clear n0_ n1_ n2_ n3_; clear hb hbox hg; have hcz13_0 : w12.cell? ⟨gb285, 0, none⟩ = some (.int .i64 a0_0) := (blk_cell BK285.out 0).trans rfl; have hcz13_1 : w12.cell? ⟨gb285, 1, none⟩ = some (.bool false) := (blk_cell BK285.out 1).trans rfl; have hfz13_0 := blk_frozen BK285.out 0; have hfz13_1 := blk_frozen BK285.out 1) | ((with_reducible refine gate_callee (f := 81) rfl ?_); refine goesL_ (some 9) rfl rfl Try.func81 (by kernel_rfl) rfl #[.agg #[.int .i64 a0_0, .bool false]] rfl (by (try simp only [List.map_toArray, List.map_cons, List.map_nil]); first | done | rfl | (simp only [List.length_drop, List.length_take]; rfl)) ?_; (with_reducible refine (impl_Word_ends.calls a0_0 false t286 t287 _ A3.out).mono ?_); rintro e w14 ⟨rfl, hb⟩; refine ⟨_, rfl, ?_⟩; have n0_ := Aside0.mk (blk_below (g := gb285) (o := .cells #[.int .i64 a0_0, .bool false] 44 (0, 0)) (by (with_reducible repeat (first | refine blk_drewN ?_ _ | refine blk_drew ?_ | refine blk_alloc ?_ _)); exact BK285.out) hb); have n1_ := Aside0.mk (below_step (by repeat (first | (with_reducible first | exact HB.out | apply below_alloc | apply pw_below_drewN | apply below_drew1 | refine below_set ?_ GE285.out) | exact HB.out)) hb); clear BK285; clear HB; have BK285 := n0_; have HB := n1_; clear n0_ n1_; (try clear hb); (try clear hb2); (try clear hk); (try clear hi); have hcz15_0 : w14.cell? ⟨gb285, 0, none⟩ = some (.int .i64 a0_0) := (blk_cell BK285.out 0).trans rfl; have hcz15_1 : w14.cell? ⟨gb285, 1, none⟩ = some (.bool false) := (blk_cell BK285.out 1).trans rfl; have hfz15_0 := blk_frozen BK285.out 0; have hfz15_1 := blk_frozen BK285.out 1))
  go_ret
  exact ⟨by first | rfl | (simp [errW_none, errW_some] <;> rfl) | (simp only [← hji10, ← hji11]; first | rfl | (simp [errW_none, errW_some] <;> rfl)) | (simp [*, errW_none, errW_some] <;> rfl), by repeat (first | (with_reducible first | exact HB.out | apply below_alloc | apply pw_below_drewN | apply below_drew1 | refine below_set ?_ GE285.out) | exact HB.out)⟩

/-! ### impl_shifted: function 72 -/
def impl_shifted.j0 : Nat → Int → Int → Int → Bool → Option (Int)
 | 0, _, _, _, _ => none
 | k + 1, x0, x1, x2, x7 => if x7 = true then (if 0 ≤ (wrap64 (x1 - 1)) then (if 0 ≤ x1 then (some (shr .i64 (wrap64 (x0 + (shl .i64 1 (wrap64 (x1 - 1))))) x1)) else (none)) else (none)) else (if x2 = 2 then (if x0 < 0 then (if 0 ≤ x1 then (some (wrap64 (-(shr .i64 (wrap64 (-x0)) x1)))) else (none)) else (if 0 ≤ x1 then (some (shr .i64 x0 x1)) else (none))) else (if 0 ≤ x1 then (some (shr .i64 x0 x1)) else (none)))
def impl_shifted.f (k : Nat) (a0 : Int) (a1 : Int) (a2 : Int) : Option (Int) := if a2 = 1 then (impl_shifted.j0 k a0 a1 a2 (decide (a1 > 0))) else (impl_shifted.j0 k a0 a1 a2 false)

set_option maxHeartbeats 80000000 in
set_option maxRecDepth 100000 in
theorem impl_shifted.calls (k : Nat) (a0 : Int) (a1 : Int) (a2 : Int) (r : Int) (w : World) (h : impl_shifted.f k a0 a1 a2 = some r) :
  Calls Try.prog 72 #[.int .i64 a0, .int .i64 a1, .int .i64 a2] w fun e w' => e = .returned (.int .i64 r) ∧ Drawn0 w w' := by
 have H : (if a2 = 1 then (impl_shifted.j0 k a0 a1 a2 (decide (a1 > 0))) else (impl_shifted.j0 k a0 a1 a2 false)) = some r := h
 clear h
 have HC4 := Aside0.mk H
 clear H
 go_enter Try.func72, Try.ntmps72
 go_upto_region 1 with (fail)
 go_cut [7] (fun v7 wc => ∃ (kq : Nat) (x7_3 : Bool), v7 = .bool x7_3 ∧ Aside0 (impl_shifted.j0 kq a0 a1 a2 x7_3 = some r) ∧ Aside0 (kq ≤ k) ∧ Drawn0 w wc)
 case first =>
  have H := HC4.out
  clear HC4
  by_cases c5 : a2 = 1
  ·rw [if_pos c5] at H
   have c5b0 : (a2 == 1) = true := beq_iff_eq.mpr c5
   have c5b1 : (a2 != 1) = false := bne_eq_false_iff_eq.mpr c5
   clear c5
   (first | rw [c5b0] | (simp only [i64_w, i32_w]; rw [c5b0]) | skip)
   have H' := Aside0.mk H
   clear H
   go_wp2
   go_meet
   case rel => exact ⟨_, (decide (a1 > 0)), (by first | rfl | (simp; done) | (simp [*]; done)), H', ⟨by first | omega | exact Nat.le_refl _⟩, by repeat (first | exact Drawn0.refl _ | apply Drawn0.step)⟩
  ·rw [if_neg c5] at H
   have c5b0 : (a2 == 1) = false := beq_eq_false_iff_ne.mpr c5
   have c5b1 : (a2 != 1) = true := bne_iff_ne.mpr c5
   (first | rw [c5b0] | (simp only [i64_w, i32_w]; rw [c5b0]) | skip)
   have H' := Aside0.mk H
   clear H
   go_wp2
   go_meet
   case rel => exact ⟨_, (false), (by first | rfl | (simp; done) | (simp [*]; done)), H', ⟨by first | omega | exact Nat.le_refl _⟩, by repeat (first | exact Drawn0.refl _ | apply Drawn0.step)⟩
 case rest =>
  clear HC4
  try clear p2
  try clear c5
  try clear c5b0
  try clear c5b1
  obtain ⟨kq, x7_3, rfl, HA, HJ3, ⟨mc3, rfl⟩⟩ := hcut
  cases kq with
  | zero => exact absurd HA.out (by simp [impl_shifted.j0])
  | succ kj3 =>
   have H := HA.out
   clear HA
   simp only [impl_shifted.j0] at H
   by_cases c6 : x7_3 = true
   ·subst c6
    have H1 : (if 0 ≤ (wrap64 (a1 - 1)) then (if 0 ≤ a1 then (some (shr .i64 (wrap64 (a0 + (shl .i64 1 (wrap64 (a1 - 1))))) a1)) else (none)) else (none)) = some r := by rw [if_pos rfl] at H; exact H
    clear H
    have H := H1
    clear H1
    obtain ⟨ji7, hji7⟩ : ∃ j_ : Int, (wrap64 (a1 - 1)) = j_ := ⟨_, rfl⟩
    replace H : (if 0 ≤ (ji7) then (if 0 ≤ a1 then (some (shr .i64 (wrap64 (a0 + (shl .i64 1 (ji7)))) a1)) else (none)) else (none)) = some r := by first | (rw [hji7] at H; exact H) | (simp only [hji7] at H ⊢; exact H)
    have hji7w : (IntKind.i64.wrap (a1 - 1)) = ji7 := (i64_w _).trans hji7
    by_cases c8 : 0 ≤ (ji7)
    ·rw [if_pos c8] at H
     have c8b0 := eq_true c8
     have c8b1 : decide (0 ≤ (ji7)) = true := decide_eq_true c8
     clear c8
     obtain ⟨ji9, hji9⟩ : ∃ j_ : Int, (shl .i64 1 (ji7)) = j_ := ⟨_, rfl⟩
     replace H : (if 0 ≤ a1 then (some (shr .i64 (wrap64 (a0 + (ji9))) a1)) else (none)) = some r := by first | (rw [hji9] at H; exact H) | (simp only [hji9] at H ⊢; exact H)
     have hji9_ : (IntKind.i64.wrap (1 * 2 ^ min (ji7).toNat 64)) = ji9 := hji9
     have hji9z : (ji7) ≤ 64 → (IntKind.i64.wrap (1 * 2 ^ (ji7).toNat)) = ji9 := shl_small hji9
     have hji9u : (IntKind.i64.wrap (2 ^ min (ji7).toNat 64)) = ji9 := by have h_ := hji9_; rw [Int.one_mul] at h_; exact h_
     have hji9v : (ji7) ≤ 64 → (IntKind.i64.wrap (2 ^ (ji7).toNat)) = ji9 := fun hle_ => by have h_ := hji9z hle_; rw [Int.one_mul] at h_; exact h_
     have hji9y : (wrap64 (1 * 2 ^ min (ji7).toNat 64)) = ji9 := (i64_w _).symm.trans hji9_
     have hji9x : (ji7) ≤ 64 → (wrap64 (1 * 2 ^ (ji7).toNat)) = ji9 := fun h_ => (i64_w _).symm.trans (hji9z h_)
     by_cases c10 : 0 ≤ a1
     ·rw [if_pos c10] at H
      have c10b0 := eq_true c10
      have c10b1 : decide (0 ≤ a1) = true := decide_eq_true c10
      clear c10
      obtain ⟨ji11, hji11⟩ : ∃ j_ : Int, (shr .i64 (wrap64 (a0 + (ji9))) a1) = j_ := ⟨_, rfl⟩
      replace H : (some ji11) = some r := by first | (rw [hji11] at H; exact H) | (simp only [hji11] at H ⊢; exact H)
      have hji11_ : ((wrap64 (a0 + (ji9))) / 2 ^ min a1.toNat 64) = ji11 := hji11
      have hji11z : a1 ≤ 64 → ((wrap64 (a0 + (ji9))) / 2 ^ a1.toNat) = ji11 := shr_small hji11
      obtain rfl := Option.some.inj H
      go_wp2
      go_ret
      exact ⟨by first | rfl | (simp; done) | (simp only [← hji7, ← hji9, ← hji11] <;> (first | rfl | simp)) | (simp [*]; done), by repeat (first | exact Drawn0.refl _ | apply Drawn0.step)⟩
     ·rw [if_neg c10] at H
      exact absurd H (by simp)
    ·rw [if_neg c8] at H
     exact absurd H (by simp)
   ·replace c6 := Bool.eq_false_iff.mpr c6
    subst c6
    have H1 : (if a2 = 2 then (if a0 < 0 then (if 0 ≤ a1 then (some (wrap64 (-(shr .i64 (wrap64 (-a0)) a1)))) else (none)) else (if 0 ≤ a1 then (some (shr .i64 a0 a1)) else (none))) else (if 0 ≤ a1 then (some (shr .i64 a0 a1)) else (none))) = some r := by rw [if_neg (show ¬ (false = true) by decide)] at H; exact H
    clear H
    have H := H1
    clear H1
    by_cases c12 : a2 = 2
    ·rw [if_pos c12] at H
     have c12b0 : (a2 == 2) = true := beq_iff_eq.mpr c12
     have c12b1 : (a2 != 2) = false := bne_eq_false_iff_eq.mpr c12
     clear c12
     by_cases c13 : a0 < 0
     ·rw [if_pos c13] at H
      have c13b0 : decide (a0 < 0) = true := decide_eq_true c13
      clear c13
      by_cases c14 : 0 ≤ a1
      ·rw [if_pos c14] at H
       have c14b0 := eq_true c14
       have c14b1 : decide (0 ≤ a1) = true := decide_eq_true c14
       clear c14
       obtain ⟨ji15, hji15⟩ : ∃ j_ : Int, (shr .i64 (wrap64 (-a0)) a1) = j_ := ⟨_, rfl⟩
       replace H : (some (wrap64 (-(ji15)))) = some r := by first | (rw [hji15] at H; exact H) | (simp only [hji15] at H ⊢; exact H)
       have hji15_ : ((wrap64 (-a0)) / 2 ^ min a1.toNat 64) = ji15 := hji15
       have hji15z : a1 ≤ 64 → ((wrap64 (-a0)) / 2 ^ a1.toNat) = ji15 := shr_small hji15
       obtain rfl := Option.some.inj H
       go_wp2
       go_ret
       exact ⟨by first | rfl | (simp; done) | (simp only [← hji15] <;> (first | rfl | simp)) | (simp [*]; done), by repeat (first | exact Drawn0.refl _ | apply Drawn0.step)⟩
      ·rw [if_neg c14] at H
       exact absurd H (by simp)
     ·rw [if_neg c13] at H
      have c13b0 : decide (a0 < 0) = false := decide_eq_false c13
      clear c13
      by_cases c16 : 0 ≤ a1
      ·rw [if_pos c16] at H
       have c16b0 := eq_true c16
       have c16b1 : decide (0 ≤ a1) = true := decide_eq_true c16
       clear c16
       obtain ⟨ji17, hji17⟩ : ∃ j_ : Int, (shr .i64 a0 a1) = j_ := ⟨_, rfl⟩
       replace H : (some ji17) = some r := by first | (rw [hji17] at H; exact H) | (simp only [hji17] at H ⊢; exact H)
       have hji17_ : (a0 / 2 ^ min a1.toNat 64) = ji17 := hji17
       have hji17z : a1 ≤ 64 → (a0 / 2 ^ a1.toNat) = ji17 := shr_small hji17
       obtain rfl := Option.some.inj H
       go_wp2
       go_ret
       exact ⟨by first | rfl | (simp; done) | (simp only [← hji17] <;> (first | rfl | simp)) | (simp [*]; done), by repeat (first | exact Drawn0.refl _ | apply Drawn0.step)⟩
      ·rw [if_neg c16] at H
       exact absurd H (by simp)
    ·rw [if_neg c12] at H
     have c12b0 : (a2 == 2) = false := beq_eq_false_iff_ne.mpr c12
     have c12b1 : (a2 != 2) = true := bne_iff_ne.mpr c12
     by_cases c18 : 0 ≤ a1
     ·rw [if_pos c18] at H
      have c18b0 := eq_true c18
      have c18b1 : decide (0 ≤ a1) = true := decide_eq_true c18
      clear c18
      obtain ⟨ji19, hji19⟩ : ∃ j_ : Int, (shr .i64 a0 a1) = j_ := ⟨_, rfl⟩
      replace H : (some ji19) = some r := by first | (rw [hji19] at H; exact H) | (simp only [hji19] at H ⊢; exact H)
      have hji19_ : (a0 / 2 ^ min a1.toNat 64) = ji19 := hji19
      have hji19z : a1 ≤ 64 → (a0 / 2 ^ a1.toNat) = ji19 := shr_small hji19
      obtain rfl := Option.some.inj H
      go_wp2
      go_ret
      exact ⟨by first | rfl | (simp; done) | (simp only [← hji19] <;> (first | rfl | simp)) | (simp [*]; done), by repeat (first | exact Drawn0.refl _ | apply Drawn0.step)⟩
     ·rw [if_neg c18] at H
      exact absurd H (by simp)

end Go.Proofs.Ytjbpflfihdabhaa.PFnFiltersInWords
