/- Filters in words are exact where nothing is shifted and words are wide, wrapped ones are exact ones wrapped, and bits are enough: for all bytes that inputs are drawn from (no condition). -/
import Derived.Test.YtjbpflfihdabhaaPFnFiltersInWordsx13
import Derived.Test.YtjbpflfihdabhaaFiltersD
namespace Go.Proofs.Ytjbpflfihdabhaa.Pure
open Go.RowKit Go.Proofs.Ytjbpflfihdabhaa.PFnFiltersInWords Go.Proofs.YtjbpflfihdabhaaW.PrintWords Go.Proofs.YtjbpflfihdabhaaW.PrintLast Go.Proofs.YtjbpflfihdabhaaW.PrintMore Go.Proofs.Ytjbpflfihdabhaa.Base Go.Proofs.Ytjbpflfihdabhaa.PureF
set_option linter.unusedVariables false
set_option linter.unusedSimpArgs false

theorem wf_bytes {l : List Int} (h : ∀ x ∈ l, (Lit.int .u8 x).wf = true) : Bytes l := fun x hx => by
  have := h x hx
  simp [Lit.wf, IntKind.min, IntKind.max, IntKind.bits, IntKind.signed] at this
  omega
theorem j2_true (t : List Int) (ht : Bytes t) : Evt (fun k => laws_FnFiltersInWords.j2 k t) true := by
  obtain ⟨l, b, c, e⟩ := draw_bits t ht
  obtain ⟨r, h1, h2, hr⟩ := bits_val l b c
  refine Evt.step (fun k => by simp only [laws_FnFiltersInWords.j2]; rfl) ?_
  refine Evt.bind e (Evt.bind h1 (Evt.bind h2 (Evt.neg (by simp) (Evt.pos rfl ?_))))
  by_cases hb : r.2 = true
  · obtain ⟨W, g1, g2, b2, b40, f1, f2⟩ := hr hb
    have hH := Hf_rng W
    obtain ⟨q1, q2, q3⟩ := size_laws hH.1 hH.2 l l.length
    have hz := szS_bd g2 (k := l.length) (Nat.le_refl _) g1.2
    have hlo := loS_bd hH.1 hH.2 g2 (k := l.length) (Nat.le_refl _) g1.2
    refine Evt.pos hb (Evt.bind (sizeGain_val g1 g2) (Evt.bindp (rangeOf_val c W) (Evt.pos rfl (Evt.pos rfl ?_))))
    have hp := pw_rng40 (s := r.1 - 1) (by omega)
    have hq := pw_rng40 (s := r.1 - 2) (by omega)
    generalize hS : szS l l.length = z at *
    have hm := mul_bd (a := z) (b := Hf b) (A := 9000) (B := 32768) (by omega) (by omega) (by omega) (by omega)
    have hm' := mul_bd (a := z) (b := Hf b - 1) (A := 9000) (B := 32768) (by omega) (by omega) (by omega) (by omega)
    unfold fits at f1 f2
    rw [show r.1 - 1 - 1 = r.1 - 2 by omega] at f2
    have e1 : wrap64 (r.1 - 1) = r.1 - 1 := w64 (by omega) (by omega)
    have e2 : wrap64 (r.1 - 2) = r.1 - 2 := by clear e1; exact w64 (by omega) (by omega)
    have e3 : wrap64 (- -(Hf b)) = Hf b := by clear e1 e2; rw [Int.neg_neg]; exact w64 (by omega) (by omega)
    have e4 : wrap64 (z * Hf b) = z * Hf b := by clear e1 e2 e3; exact w64 (by omega) (by omega)
    have e5 : wrap64 (pw (r.1 - 1) + z) = pw (r.1 - 1) + z := by clear e1 e2 e3 e4; exact w64 (by omega) (by omega)
    have e6 : wrap64 (Hf b - 1) = Hf b - 1 := by clear e1 e2 e3 e4 e5; exact w64 (by omega) (by omega)
    have e7 : shl .i64 1 (r.1 - 1) = pw (r.1 - 1) := shlp (by omega) (by omega)
    simp only [e1, e2, e3, e4, e5, e6, e7]
    clear e1 e2 e3 e4 e5 e6 e7
    refine Evt.pos (by omega) (Evt.neg (by omega) ?_)
    by_cases c1 : r.1 > 2
    · refine Evt.pos c1 (Evt.pos (by omega) ?_)
      have f2' := f2 c1
      rw [show shl .i64 1 (r.1 - 2) = pw (r.1 - 2) from shlp (by omega) (by omega)]
      by_cases c2 : wrap64 (z * (Hf b - 1)) < wrap64 (pw (r.1 - 2) - z)
      · refine Evt.pos c2 ?_
        by_cases c3 : z > 0
        · exact Evt.pos c3 (Evt.neg (fun h => f2' ⟨by omega, by omega⟩) (Evt.ret _))
        · exact Evt.neg c3 (Evt.ret _)
      · exact Evt.neg c2 (Evt.ret _)
    · exact Evt.neg c1 (Evt.ret _)
  · exact Evt.neg hb (Evt.ret _)
def shortL (l s : List Int) : List Int := (List.range s.length).map (fun j : Nat => cv l s j l.length)
theorem l1_true {t : List Int} (ht : Bytes t) {b : Int} (c : Bool) {l s : List Int} {sh m : Int} (A : AskF b l s sh m) (hm : shiB sh m = true) (hs : sig (shortL l s) = true) :
    ∀ (d i : Nat), i + d = s.length → Evt (fun k => laws_FnFiltersInWords.l1 k t l sh m ((List.range s.length).map (fts b c l s sh m)) ((List.range s.length).map (fe b c l s sh m)) (shortL l s) (shortL l s) s.length i b c) true
  | 0, i, hd => by
    refine Evt.step (fun k => by simp only [laws_FnFiltersInWords.l1]; rw [if_neg (by omega)]) ?_
    obtain ⟨r, h1, h2, hr⟩ := bits_val l b c
    refine Evt.bind h1 ?_
    by_cases hb : r.2 = true
    · refine Evt.pos hb ?_
      obtain ⟨W, g1, g2, b2, b40, f1, f2⟩ := hr hb
      by_cases c1 : r.1 ≤ b
      · refine Evt.pos c1 ?_
        by_cases c2 : sh = 0
        · subst c2
          have hH := Hf_rng W
          have hp := pw_mono (show r.1 - 1 ≤ b - 1 by omega)
          have ep : pw (b - 1) = Hf b := rfl
          obtain ⟨f3, f4⟩ := f1
          have hlen := A.slen
          have x1 : (List.range s.length).map (fts b c l s 0 m) = shortL l s := by
            unfold shortL; apply List.map_congr_left
            intro j hj
            have hj' := List.mem_range.mp hj
            unfold fts
            rw [ft_exact c W l A.hs m hj' (by omega) (by omega) _ (by omega) (by omega), cv_min]
          have x2 : (List.range s.length).map (fe b c l s 0 m) = shortL l s := by
            unfold shortL; apply List.map_congr_left
            intro j hj
            have bb := cv_between hH.1 hH.2 l A.hs (j : Int) (k := l.length) (Nat.le_refl _)
            unfold fe
            rw [shG_zero, fitG_id c W (by omega) (by omega)]
          rw [x1, x2]
          refine Evt.pos rfl (Evt.bind (iSame_same _ (by simp [shortL]; omega)) (Evt.pos rfl (Evt.bind (iSame_same _ (by simp [shortL]; omega)) (Evt.pos rfl (j2_true t ht)))))
        · exact Evt.neg c2 (j2_true t ht)
      · exact Evt.neg c1 (j2_true t ht)
    · exact Evt.neg hb (j2_true t ht)
  | d + 1, i, hd => by
    have ih := l1_true ht c A hm hs d (i + 1) (by omega)
    have hlen := A.slen
    have hsl : (shortL l s).length = s.length := by simp [shortL]
    have hx : rd (shortL l s) i = cv l s i l.length := rd_map _ (by omega)
    have hb := (sig_iff.mp hs).2 _ (rd_mem (l := shortL l s) (i := i) (by omega) (by omega))
    rw [hx] at hb
    have hg := shG_bd (m := m) A.s0 A.s20 (by omega) hb.1 hb.2
    have e1 : wrap64 ((i : Int) + 1) = ((i + 1 : Nat) : Int) := by rw [w64 (by omega) (by omega)]; rfl
    refine Evt.step (fun k => by simp only [laws_FnFiltersInWords.l1]; rw [e1, if_pos (by clear e1; omega), if_pos (by clear e1; omega), if_pos (by clear e1; omega), hx]) ?_
    clear e1
    refine Evt.bind (roundShift_val hm A.s0 A.s20 (by omega) (by omega)) (Evt.bindp (fitNumber_val c A.w (by omega) (by omega)) (Evt.pos rfl (Evt.pos rfl (Evt.pos (by simp; omega) (Evt.pos (rd_map _ (by omega)) ?_)))))
    by_cases c1 : sh = 0
    · refine Evt.pos c1 ?_
      by_cases c2 : c = true
      · refine Evt.pos c2 (Evt.pos (by simp; omega) (Evt.bindp (iWrap_val A.w) (Evt.pos ?_ ih)))
        rw [rd_map _ (by omega)]
        subst c1; subst c2
        exact fts_wrap A.w l s m (by omega)
      · exact Evt.neg c2 ih
    · exact Evt.neg c1 ih
theorem l0_true {t : List Int} (ht : Bytes t) {b : Int} (c : Bool) {l s : List Int} {sh m : Int} (A : AskF b l s sh m) (hm : shiB sh m = true) (x : List Int) (y : Bool) (hxy : (x, y) = told (shortL l s)) :
    ∀ (d i : Nat), i + d = s.length → Evt (fun k => laws_FnFiltersInWords.l0 k t l sh m ((List.range s.length).map (fts b c l s sh m)) ((List.range s.length).map (fe b c l s sh m)) x y (-(Hf b)) (Hf b - 1) s.length i b c) true
  | 0, i, hd => by
    refine Evt.step (fun k => by simp only [laws_FnFiltersInWords.l0]; rw [if_neg (by omega)]) ?_
    unfold told at hxy
    by_cases h : sig (shortL l s) = true
    · rw [if_pos h] at hxy
      obtain ⟨rfl, rfl⟩ := Prod.mk.inj hxy
      have hsl : ((shortL l s).length : Int) = s.length := by simp [shortL]
      rw [hsl]
      exact Evt.pos rfl (l1_true ht c A hm h s.length 0 (by omega))
    · rw [if_neg h] at hxy
      obtain ⟨rfl, rfl⟩ := Prod.mk.inj hxy
      exact Evt.neg (by simp) (j2_true t ht)
  | d + 1, i, hd => by
    have ih := l0_true ht c A hm x y hxy d (i + 1) (by omega)
    have hlen := A.slen
    have e1 : wrap64 ((i : Int) + 1) = ((i + 1 : Nat) : Int) := by rw [w64 (by omega) (by omega)]; rfl
    have h1 := ft_has c A.w l s sh m i (min l.length (i + 1))
    have h2 := fe_rng c A.w l s sh m i
    have e2 : rd ((List.range s.length).map (fts b c l s sh m)) i = fts b c l s sh m i := rd_map _ (by omega)
    have e3 : rd ((List.range s.length).map (fe b c l s sh m)) i = fe b c l s sh m i := rd_map _ (by omega)
    refine Evt.step (fun k => ?_) ih
    simp only [laws_FnFiltersInWords.l0]
    rw [e1, e2, e3]
    clear e1 e2 e3
    unfold fts
    rw [if_pos (by omega), if_pos (by omega), if_pos (by simp; omega), if_neg (by omega), if_neg (by omega), if_pos (by simp; omega), if_neg (by omega), if_neg (by omega)]
theorem law_true (s t : List Int) (hs : Bytes s) (ht : Bytes t) : Evt (fun k => laws_FnFiltersInWords.f k s t) true := by
  unfold laws_FnFiltersInWords.f
  obtain ⟨c, hc⟩ : ∃ c, laws_big.f s t = some c := by unfold laws_big.f; split <;> exact ⟨_, rfl⟩
  refine Evt.bindp hc ?_
  cases c with
  | true => exact Evt.pos rfl (Evt.ret _)
  | false =>
  obtain ⟨b, c, l, u, sh, m, e⟩ := draw_filter s hs
  have hlen : ∀ h : askB b l u sh m = true, u.length ≤ 64 := fun h => (ask_iff h).slen
  have l1 : (inW b c l u sh m).1.length ≤ 1000000 := by
    unfold inW; split
    · rename_i h; have := hlen h; simp; omega
    · simp
  have l2 : (atE b c l u sh m).1.length ≤ 1000000 := by
    unfold atE; split
    · rename_i h; have := hlen h; simp; omega
    · simp
  have l3 : (atE b c l u sh m).2 = (inW b c l u sh m).2 := by unfold atE inW; split <;> rfl
  refine Evt.neg (by simp) (Evt.bind e (Evt.bind (implInW_val b c l u sh m) (Evt.bind (specInW_val b c l u sh m) (Evt.bind (implAtE_val b c l u sh m) (Evt.bind (specAtE_val b c l u sh m) ?_)))))
  refine Evt.neg (by simp) (Evt.bind (iSame_same _ l1) (Evt.pos rfl (Evt.neg (by simp) (Evt.bind (iSame_same _ l2) (Evt.pos rfl (Evt.neg (by rw [l3]; simp) ?_))))))
  by_cases h : askB b l u sh m = true
  · have A := ask_iff h
    have hm : shiB sh m = true := by unfold askB at h; simp only [Bool.and_eq_true] at h; exact h.1.1.2
    have e1 : inW b c l u sh m = ((List.range u.length).map (fts b c l u sh m), true) := by unfold inW; rw [if_pos h]
    have e2 : atE b c l u sh m = ((List.range u.length).map (fe b c l u sh m), true) := by unfold atE; rw [if_pos h]
    rw [e1, e2]
    refine Evt.pos rfl (Evt.bind (short_val A) (Evt.bindp (rangeOf_val c A.w) (Evt.pos rfl (Evt.pos (by simp) (Evt.pos (by simp) ?_)))))
    have el : (((List.range u.length).map (fts b c l u sh m)).length : Int) = u.length := by simp
    show Evt (fun k => laws_FnFiltersInWords.l0 k t l sh m ((List.range u.length).map (fts b c l u sh m)) ((List.range u.length).map (fe b c l u sh m)) _ _ (-(Hf b)) (Hf b - 1) (((List.range u.length).map (fts b c l u sh m)).length : Int) 0 b c) true
    rw [el]
    exact l0_true ht c A hm _ _ rfl u.length 0 (by omega)
  · have e1 : inW b c l u sh m = ([], false) := by unfold inW; rw [if_neg h]
    rw [e1]
    exact Evt.neg (by simp) (j2_true t ht)
theorem FnFiltersInWords : laws_FnFiltersInWords.Pure := fun l0 l1 _ _ h0 _ _ h1 => (law_true l0 l1 (wf_bytes h0) (wf_bytes h1)).ex

end Go.Proofs.Ytjbpflfihdabhaa.Pure
