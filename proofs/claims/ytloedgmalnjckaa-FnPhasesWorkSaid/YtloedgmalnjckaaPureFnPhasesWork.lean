/- Phases, joined phases, bands and products are told alike both ways, and each undoes the other: for all bytes that inputs are drawn from (no condition). -/
import Derived.Test.YtloedgmalnjckaaPFnPhasesWorkx11
import Derived.Test.YtloedgmalnjckaaPlainP
namespace Go.Proofs.Ytloedgmalnjckaa.Pure
open Go.RowKit Go.Proofs.Ytloedgmalnjckaa.PFnPhasesWork Go.Proofs.YtloedgmalnjckaaW.PrintWords Go.Proofs.YtloedgmalnjckaaW.PrintLast Go.Proofs.YtloedgmalnjckaaW.PrintMore Go.Proofs.Ytloedgmalnjckaa.Base Go.Proofs.Ytloedgmalnjckaa.PlainFnPhasesWork
set_option linter.unusedVariables false
set_option linter.unusedSimpArgs false

theorem j5_true (t : List Int) (ht : Bytes t) : Evt (fun k => laws_FnPhasesWork.j5 k t) true := by
  obtain ⟨⟨h, n, p, q⟩, e1⟩ := draw_ProductsDirect t ht
  obtain ⟨⟨h2, u2, q2⟩, e2⟩ := draw_DownFilter t ht
  obtain ⟨⟨h3, u3, p3⟩, e3⟩ := draw_UpFilter t ht
  refine Evt.step (fun k => by simp only [laws_FnPhasesWork.j5]; rfl) ?_
  refine Evt.bind e1 (Evt.bind (ProductsDirect_val h n p q) (Evt.bind (specProductsDirect_val h n p q) (Evt.bind (ProductsByPhases_val h n p q) (Evt.bind (specProductsByPhases_val h n p q) ?_))))
  refine Evt.bind e2 (Evt.bind (DownFilter_val h2 u2 q2) (Evt.bind (specDownFilter_val h2 u2 q2) ?_))
  refine Evt.bind e3 (Evt.bind (UpFilter_val h3 u3 p3) (Evt.bind (specUpFilter_val h3 u3 p3) ?_))
  refine Evt.pos (by simp) (Evt.pos rfl (Evt.pos (by simp) (Evt.pos rfl (Evt.pos (by simp) ?_))))
  exact Evt.bind (iSame_same _ (upR_len _ _ _ _)) (Evt.pos rfl (Evt.pos (by simp) (Evt.bind (iSame_same _ (upR_len _ _ _ _)) (Evt.ret _))))
theorem j4_true (t : List Int) (ht : Bytes t) (a b : List Int) : Evt (fun k => laws_FnPhasesWork.j4 k t a b (jbR a b).1 (jbR a b).2) true := by
  by_cases c : (jbR a b).2 = true
  · have e : jbR a b = ((jbR a b).1, true) := by rw [← c]
    have e2 := jb_tb e
    have hl : a.length ≤ 1000000 ∧ b.length ≤ 1000000 := by have := tbR_len (jbR a b).1; rw [e2] at this; exact this
    refine Evt.step (fun k => by simp only [laws_FnPhasesWork.j4]; rw [if_pos c]) ?_
    refine Evt.bind (TwoBands_val _) ?_
    rw [e2]
    exact Evt.pos rfl (Evt.bind (iSame_same _ hl.1) (Evt.pos rfl (Evt.bind (iSame_same _ hl.2) (Evt.pos rfl (j5_true t ht)))))
  · exact Evt.step (fun k => by simp only [laws_FnPhasesWork.j4]; rw [if_neg c]) (j5_true t ht)
theorem j3_true (t : List Int) (ht : Bytes t) : Evt (fun k => laws_FnPhasesWork.j3 k t) true := by
  obtain ⟨u, e1⟩ := draw_TwoBands t ht
  obtain ⟨⟨a, b⟩, e2⟩ := draw_JoinBands t ht
  have l := tbR_len u
  refine Evt.step (fun k => by simp only [laws_FnPhasesWork.j3]; rfl) ?_
  refine Evt.bind e1 (Evt.bind (TwoBands_val u) (Evt.bind (specTwoBands_val u) (Evt.bind e2 (Evt.bind (JoinBands_val a b) (Evt.bind (specJoinBands_val a b) ?_)))))
  refine Evt.neg (by simp) (Evt.bind (iSame_same _ l.1) (Evt.pos rfl (Evt.bind (iSame_same _ l.2) (Evt.pos rfl (Evt.neg (by simp) (Evt.bind (iSame_same _ (jbR_len a b)) (Evt.pos rfl ?_)))))))
  by_cases c : (tbR u).2.2 = true
  · have hB : tbB u = true := by
      by_cases h : tbB u = true
      · exact h
      · unfold tbR at c; rw [if_neg h] at c; simp at c
    have er : tbR u = (tb1L u, tb2L u, true) := by unfold tbR; rw [if_pos hB]
    have hu : u.length ≤ 1000000 := by
      unfold tbB at hB
      simp only [Bool.and_eq_true] at hB
      have := (sig_iff.mp hB.1.1).1; omega
    refine Evt.pos c ?_
    have hj := JoinBands_val (tb1L u) (tb2L u)
    rw [tb_jb hB] at hj
    rw [er]
    exact Evt.bind hj (Evt.pos rfl (Evt.bind (iSame_same _ hu) (Evt.pos rfl (j4_true t ht a b))))
  · exact Evt.neg c (j4_true t ht a b)
theorem j2_true (t : List Int) (ht : Bytes t) (L : List (List Int)) (hL : FewRows L) : Evt (fun k => laws_FnPhasesWork.j2 k t L (joR L).1 (joR L).2) true := by
  by_cases c : (joR L).2 = true
  · have e : joR L = ((joR L).1, true) := by rw [← c]
    obtain ⟨e1, e2⟩ := ph_join e
    have er : phR (joR L).1 (L.length : Int) = (L, true) := by unfold phR; rw [if_pos e1, Int.toNat_natCast, e2]
    refine Evt.step (fun k => by simp only [laws_FnPhasesWork.j2]; rw [if_pos c]) ?_
    refine Evt.bind (PhasesOf_val _ _) ?_
    rw [er]
    exact Evt.pos rfl (Evt.bind (iRows_same L (by have := hL.1; omega) hL.ln) (Evt.pos rfl (j3_true t ht)))
  · exact Evt.step (fun k => by simp only [laws_FnPhasesWork.j2]; rw [if_neg c]) (j3_true t ht)
theorem j1_true (t : List Int) (ht : Bytes t) : Evt (fun k => laws_FnPhasesWork.j1 k t) true := by
  obtain ⟨⟨h, p⟩, e1⟩ := draw_PhasesOf t ht
  obtain ⟨L, e2, hL⟩ := draw_JoinPhases t ht
  have few := phR_few h p
  have l1 : L.length ≤ 1000 := by have := hL.1; omega
  refine Evt.step (fun k => by simp only [laws_FnPhasesWork.j1]; rfl) ?_
  refine Evt.bind e1 (Evt.bind (PhasesOf_val h p) (Evt.bind (specPhasesOf_val h p) (Evt.bind e2 (Evt.bind (JoinPhases_val l1 hL.ln) (Evt.bind (specJoinPhases_val l1 hL.ln) ?_)))))
  refine Evt.neg (by simp) (Evt.bind (iRows_same _ few.1 few.2) (Evt.pos rfl (Evt.neg (by simp) (Evt.bind (iSame_same _ (joR_len L)) (Evt.pos rfl ?_)))))
  by_cases c : (phR h p).2 = true
  · have hB : (wei h && inB p 1 8) = true := by
      by_cases x : (wei h && inB p 1 8) = true
      · exact x
      · unfold phR at c; rw [if_neg x] at c; simp at c
    have hB' := hB
    rw [Bool.and_eq_true] at hB'
    have g := inB_iff.mp hB'.2
    have er : phR h p = (phL h p.toNat, true) := by unfold phR; rw [if_pos hB]
    refine Evt.pos c (Evt.bind (JoinPhases_val few.1 few.2) ?_)
    have ej : joR (phR h p).1 = (h, true) := by rw [er]; exact join_ph (by omega) (by omega) hB'.1
    rw [ej, er]
    have hw := (wei_iff.mp hB'.1).1
    refine Evt.pos rfl (Evt.bind (iSame_same h (by omega)) (Evt.pos rfl (Evt.pos ?_ (j2_true t ht L hL))))
    show ((phL h p.toNat).length : Int) = p
    rw [phL_len]; omega
  · exact Evt.neg c (j2_true t ht L hL)
theorem j0_true (t : List Int) (ht : Bytes t) {h s : List Int} {p q : Nat} (U : UpS h s p q) (hr : (upR h s p q).2 = true) : Evt (fun k => laws_FnPhasesWork.j0 k t h s p q (upR h s p q).1) true := by
  by_cases c : p = 1
  · subst c
    have hd := DownFilter_val h s q
    have hl := upR_len h s (1 : Nat) q
    have hf := short1_val U
    refine Evt.step (fun k => by simp only [laws_FnPhasesWork.j0]; rw [if_pos (show ((1 : Nat) : Int) = 1 from rfl)]) ?_
    refine Evt.bind hd (Evt.bind hf (Evt.pos hr (Evt.bind (iSame_same _ hl) (Evt.pos rfl ?_))))
    by_cases g : sig (upL h s 1 1) = true
    · have et : told (upL h s 1 1) = (upL h s 1 1, true) := by unfold told; rw [if_pos g]
      have er : upR h s (1 : Nat) q = (upL h s 1 q, true) := by
        rw [upR_mk U] at hr ⊢
        unfold told at hr ⊢
        by_cases g2 : sig (upL h s 1 q) = true
        · rw [if_pos g2]
        · rw [if_neg g2] at hr; simp at hr
      have er' : (upR h s 1 q).1 = upL h s 1 q := congrArg Prod.fst er
      have h1 := DropSamples_val g U.q1 U.q8
      rw [drop_upL U] at h1
      have hl2 : (upL h s 1 q).length ≤ 1000000 := by rw [er] at hl; exact hl
      rw [et, er']
      exact Evt.pos rfl (Evt.bind h1 (Evt.pos rfl (Evt.bind (iSame_same _ hl2) (Evt.pos rfl (j1_true t ht)))))
    · have et : told (upL h s 1 1) = ([], false) := by unfold told; rw [if_neg g]
      rw [et]
      exact Evt.neg (by simp) (j1_true t ht)
  · exact Evt.step (fun k => by simp only [laws_FnPhasesWork.j0]; rw [if_neg (by omega)]) (j1_true t ht)
theorem law_true (s t : List Int) (hs : Bytes s) (ht : Bytes t) : Evt (fun k => laws_FnPhasesWork.f k s t) true := by
  unfold laws_FnPhasesWork.f
  obtain ⟨z, hz⟩ : ∃ z, laws_big.f s t = some z := by unfold laws_big.f; split <;> exact ⟨_, rfl⟩
  refine Evt.bindp hz ?_
  cases z with
  | true => exact Evt.pos rfl (Evt.ret _)
  | false =>
  obtain ⟨⟨h, u, p, q⟩, e⟩ := draw_UpFilterDown s hs
  have hl := upR_len h u p q
  refine Evt.neg (by simp) (Evt.bind e (Evt.bind (UpFilterDown_val h u p q) (Evt.bind (specUpFilterDown_val h u p q) (Evt.bind (ByPhases_val h u p q) (Evt.bind (specByPhases_val h u p q) ?_)))))
  refine Evt.neg (by simp) (Evt.bind (iSame_same _ hl) (Evt.pos rfl (Evt.neg (by simp) (Evt.bind (iSame_same _ hl) (Evt.pos rfl (Evt.neg (by simp) (Evt.bind (iSame_same _ hl) (Evt.pos rfl ?_))))))))
  by_cases c : (upR h u p q).2 = true
  · have hB : upB h u p q = true := by
      by_cases x : upB h u p q = true
      · exact x
      · unfold upR at c; rw [if_neg x] at c; simp at c
    obtain ⟨a, b, ea, eb, U⟩ := up_iff hB
    subst ea eb
    obtain ⟨d1, d2, d3⟩ := pd_pb U
    have er : upR h u a b = (upL h u a b, true) := by
      rw [upR_mk U] at c ⊢
      unfold told at c ⊢
      by_cases g2 : sig (upL h u a b) = true
      · rw [if_pos g2]
      · rw [if_neg g2] at c; simp at c
    have er' : (upR h u a b).1 = upL h u a b := congrArg Prod.fst er
    refine Evt.pos c (Evt.bindp (LengthAfter_val U) (Evt.bind (ProductsDirect_val _ _ _ _) (Evt.bind (ProductsByPhases_val _ _ _ _) ?_)))
    refine Evt.pos rfl (Evt.pos (by show ((upR h u a b).1.length : Int) = _; rw [er']) (Evt.pos d1 (Evt.pos d2 (Evt.neg d3 (Evt.bind (UpFilter_val h u a) ?_)))))
    have e1 : upR h u a 1 = told (upL h u a 1) := upR_mk U.one
    rw [e1]
    have j0 := j0_true t ht U c
    by_cases g : sig (upL h u a 1) = true
    · have et : told (upL h u a 1) = (upL h u a 1, true) := by unfold told; rw [if_pos g]
      have h1 := DropSamples_val g U.q1 U.q8
      rw [drop_upL U, ← er'] at h1
      rw [et]
      exact Evt.pos rfl (Evt.bind h1 (Evt.pos rfl (Evt.bind (iSame_same _ hl) (Evt.pos rfl j0))))
    · have et : told (upL h u a 1) = ([], false) := by unfold told; rw [if_neg g]
      rw [et]
      exact Evt.neg (by simp) j0
  · exact Evt.neg c (j1_true t ht)
theorem FnPhasesWork : laws_FnPhasesWork.Pure := fun l0 l1 _ _ h0 _ _ h1 => (law_true l0 l1 (wf_bytes h0) (wf_bytes h1)).ex

end Go.Proofs.Ytloedgmalnjckaa.Pure
