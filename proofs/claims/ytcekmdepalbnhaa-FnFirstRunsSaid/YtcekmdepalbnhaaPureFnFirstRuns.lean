/- Runs are steps one after the other, fit words, come near exact numbers by the bound, and impulses are runs: for all bytes that inputs are drawn from (no condition). -/
import Derived.Test.YtcekmdepalbnhaaPFnFirstRunsx10
import Derived.Test.YtcekmdepalbnhaaPlainR
namespace Go.Proofs.Ytcekmdepalbnhaa.Pure
open Go.RowKit Go.Proofs.Ytcekmdepalbnhaa.PFnFirstRuns Go.Proofs.YtcekmdepalbnhaaW.PrintWords Go.Proofs.YtcekmdepalbnhaaW.PrintLast Go.Proofs.YtcekmdepalbnhaaW.PrintMore Go.Proofs.Ytcekmdepalbnhaa.Base Go.Proofs.Ytcekmdepalbnhaa.PlainFnFirstRuns
set_option linter.unusedVariables false
set_option linter.unusedSimpArgs false

/-! ### the bound -/
def kap (m : Int) : Int := if m = 1 then 2 else 1
theorem rest_bd {x sh m : Int} (h0 : 0 ≤ sh) (h1 : sh ≤ 20) : -(pw sh) ≤ kap m * (pw sh * shG x sh m - x) ∧ kap m * (pw sh * shG x sh m - x) ≤ pw sh := by
  have hp := pw_rng h0 h1
  by_cases m1 : m = 1
  · have ek : kap m = 2 := if_pos m1
    rw [ek]
    unfold shG
    by_cases s0 : sh > 0
    · rw [if_pos ⟨m1, s0⟩]
      have hh := pw_half (s := sh) (by omega)
      have a1 := Int.emod_nonneg (x + pw (sh - 1)) (by omega : pw sh ≠ 0)
      have a2 := Int.emod_lt_of_pos (x + pw (sh - 1)) (by omega : 0 < pw sh)
      have h3 := Int.emod_add_mul_ediv (x + pw (sh - 1)) (pw sh)
      generalize pw sh * ((x + pw (sh - 1)) / pw sh) = q at *
      omega
    · have e : sh = 0 := by omega
      subst e
      have ep : pw 0 = 1 := rfl
      rw [if_neg (fun h => s0 h.2), if_neg (fun h => by omega), ep]
      simp
  · have ek : kap m = 1 := if_neg m1
    rw [ek]
    unfold shG
    rw [if_neg (fun h => m1 h.1)]
    by_cases m2 : m = 2 ∧ x < 0
    · rw [if_pos m2]
      have a1 := Int.emod_nonneg (-x) (by omega : pw sh ≠ 0)
      have a2 := Int.emod_lt_of_pos (-x) (by omega : 0 < pw sh)
      have h3 := Int.emod_add_mul_ediv (-x) (pw sh)
      rw [Int.mul_neg]
      generalize pw sh * ((-x) / pw sh) = q at *
      omega
    · rw [if_neg m2]
      have a1 := Int.emod_nonneg x (by omega : pw sh ≠ 0)
      have a2 := Int.emod_lt_of_pos x (by omega : 0 < pw sh)
      have h3 := Int.emod_add_mul_ediv x (pw sh)
      generalize pw sh * (x / pw sh) = q at *
      omega
theorem ebD_kap (a sh m : Int) : ebD a sh m = kap m * (pw sh - (a.natAbs : Int)) := by unfold ebD kap; split <;> omega
theorem fc_zero {a sh m b : Int} {c : Bool} {y : Int} {s : List Int} : ∀ {n : Nat}, fcG a sh m b c y s n = 0 → ∀ i, i < n → hasW b (rawG a sh m (rnG a sh m b c y s i) (rd s i)) = true
  | 0, _, i, hi => by omega
  | n + 1, h, i, hi => by
    simp only [fcG] at h
    by_cases c1 : hasW b (rawG a sh m (rnG a sh m b c y s n) (rd s n)) = true
    · rw [if_pos c1] at h
      by_cases e : i = n
      · subst e; exact c1
      · exact fc_zero h i (by omega)
    · rw [if_neg c1] at h; omega
/-- how far a run is from the exact one, times the power that makes it whole -/
def dif (a sh m b : Int) (c : Bool) (y : Int) (s : List Int) (n : Nat) : Int := rnG a sh m b c y s n * pw ((n : Int) * sh) - exG a sh y s n
theorem abs_mul_le {x y A B : Int} (hA : 0 ≤ A) (h1 : -A ≤ x) (h2 : x ≤ A) (hy : (y.natAbs : Int) = B) : -(A * B) ≤ x * y ∧ x * y ≤ A * B := mul_bd h1 h2 (by omega) (by omega)
theorem dif_bd {a sh m b : Int} (c : Bool) (F : Fir a sh m b) (hs : shrB a sh = true) {y : Int} {s : List Int} {N : Nat} (h : ∀ i, i < N → hasW b (rawG a sh m (rnG a sh m b c y s i) (rd s i)) = true) :
    ∀ n, n ≤ N → -(pw sh * pw ((n : Int) * sh)) ≤ dif a sh m b c y s n * ebD a sh m ∧ dif a sh m b c y s n * ebD a sh m ≤ pw sh * pw ((n : Int) * sh)
  | 0, _ => by
    have e : dif a sh m b c y s 0 = 0 := by
      unfold dif
      have e0 : ((0 : Nat) : Int) * sh = 0 := by simp
      have ep : pw 0 = 1 := rfl
      rw [e0, ep]; show y * 1 - y = 0; omega
    have hp := pw_rng F.s0 F.s20
    have e0 : ((0 : Nat) : Int) * sh = 0 := by simp
    have ep : pw 0 = 1 := rfl
    rw [e, e0, ep]; omega
  | n + 1, hn => by
    obtain ⟨i1, i2⟩ := dif_bd c F hs h n (by omega)
    have hA : (a.natAbs : Int) < pw sh := by simpa [shrB] using hs
    have hd := ebD_rng F hs
    have hp := pw_rng F.s0 F.s20
    have hns : (0 : Int) ≤ (n : Int) * sh := Int.mul_nonneg (by omega) F.s0
    have en : (((n + 1 : Nat) : Int)) * sh = (n : Int) * sh + sh := by rw [Int.natCast_add, Int.add_mul]; simp
    have eP : pw (((n + 1 : Nat) : Int) * sh) = pw ((n : Int) * sh) * pw sh := by rw [en, pw_add hns F.s0]
    have hP : 0 ≤ pw ((n : Int) * sh) := by have := pw_mono hns; have ep : pw 0 = 1 := rfl; omega
    have hstep : rnG a sh m b c y s (n + 1) = shG (a * rnG a sh m b c y s n) sh m + rd s n := (fit_has c F.w _).mpr (h n (by omega))
    have hr := rest_bd (x := a * rnG a sh m b c y s n) (m := m) F.s0 F.s20
    have ed : dif a sh m b c y s (n + 1) = pw ((n : Int) * sh) * (pw sh * shG (a * rnG a sh m b c y s n) sh m - a * rnG a sh m b c y s n) + a * dif a sh m b c y s n := by
      unfold dif
      rw [hstep, show exG a sh y s (n + 1) = a * exG a sh y s n + rd s n * pw (((n + 1 : Nat) : Int) * sh) from rfl, eP]
      grind
    rw [ed, eP, ebD_kap]
    rw [ebD_kap] at i1 i2
    generalize pw sh * shG (a * rnG a sh m b c y s n) sh m - a * rnG a sh m b c y s n = r at *
    generalize dif a sh m b c y s n = D at *
    generalize pw ((n : Int) * sh) = P at *
    generalize pw sh = p at *
    generalize kap m = κ at *
    have hA0 : (0 : Int) ≤ (a.natAbs : Int) := by omega
    -- κ r (p - A) P and A (κ D (p - A))
    have t1 := mul_bd (a := κ * r) (b := p - (a.natAbs : Int)) (A := p) (B := p - (a.natAbs : Int)) hr.1 hr.2 (by omega) (by omega)
    have t2 := mul_bd (a := κ * r * (p - (a.natAbs : Int))) (b := P) (A := p * (p - (a.natAbs : Int))) (B := P) t1.1 t1.2 (by omega) (by omega)
    have t3 := abs_mul_le (x := D * (κ * (p - (a.natAbs : Int)))) (y := a) (A := p * P) (B := (a.natAbs : Int)) (by have := Int.mul_nonneg (show 0 ≤ p by omega) hP; omega) i1 i2 rfl
    have eq1 : (P * r + a * D) * (κ * (p - (a.natAbs : Int))) = κ * r * (p - (a.natAbs : Int)) * P + D * (κ * (p - (a.natAbs : Int))) * a := by grind
    have eq2 : p * (P * p) = p * (p - (a.natAbs : Int)) * P + p * P * (a.natAbs : Int) := by grind
    rw [eq1, eq2]
    omega

/-! ### the rest of the draws -/
theorem set_rd0 {n : Nat} (x : Int) (h : 0 < n) : rd ((List.replicate n (0 : Int)).set 0 x) 0 = x := by
  simp [rd, h]
theorem set_rd {n i : Nat} (x : Int) : rd ((List.replicate n (0 : Int)).set 0 x) ((i + 1 : Nat) : Int) = 0 := by
  rw [rd_nat]; simp [List.getD_eq_getElem?_getD, List.getElem?_replicate]
  split <;> rfl
theorem rep_rd (n : Nat) (i : Int) : rd (List.replicate n (0 : Int)) i = 0 := by
  unfold rd; simp [List.getD_eq_getElem?_getD, List.getElem?_replicate]
  split <;> rfl
theorem tail_run {a sh m b : Int} (c : Bool) {x n : Int} (h0 : 0 < n) : ∀ i, rnG a sh m b c (rnG a sh m b c 0 (impS x n) 1) (List.replicate (n - 1).toNat 0) i = rnG a sh m b c 0 (impS x n) (i + 1)
  | 0 => rfl
  | i + 1 => by
    show fstG a sh m b c (rnG a sh m b c (rnG a sh m b c 0 (impS x n) 1) (List.replicate (n - 1).toNat 0) i) (rd (List.replicate (n - 1).toNat 0) i) = fstG a sh m b c (rnG a sh m b c 0 (impS x n) (i + 1)) (rd (impS x n) ((i + 1 : Nat) : Int))
    rw [tail_run c h0 i, rep_rd]
    have : rd (impS x n) ((i + 1 : Nat) : Int) = 0 := by unfold impS; rw [if_pos h0]; exact set_rd x
    rw [this]
theorem rep_sig {n : Nat} (h : n ≤ 64) : sig (List.replicate n 0) = true := by
  rw [sig_iff]; exact ⟨by simpa using h, fun x hx => by rw [(List.mem_replicate.mp hx).2]; omega⟩
theorem j6_true {a sh m b : Int} (c : Bool) {x n : Int} (h : impB a sh m b x n = true) (h0 : 0 < n) : Evt (fun k => laws_FnFirstRuns.j6 k n (runL a sh m b c 0 (impS x n) n.toNat) true a sh m b c) true := by
  have h' := h
  unfold impB at h'; simp only [Bool.and_eq_true] at h'
  have F := fir_iff h'.1.1
  have hn := inB_iff.mp h'.2
  have ew : wrap64 (n - 1) = n - 1 := w64 (by omega) (by omega)
  have hlen : (runL a sh m b c 0 (impS x n) n.toNat).length = n.toNat := by simp [runL]
  have hfst : rd (runL a sh m b c 0 (impS x n) n.toNat) 0 = rnG a sh m b c 0 (impS x n) 1 := by
    have := rd_map (n := n.toNat) (fun i : Nat => rnG a sh m b c 0 (impS x n) (i + 1)) (j := 0) (by omega)
    exact this
  have hy := rnG_has c F (zero_has F.w) (impS x n) 1
  have hR : runB a sh m b (rnG a sh m b c 0 (impS x n) 1) (List.replicate (n - 1).toNat 0) = true := by
    unfold runB atB
    rw [h'.1.1, hasW_iff.mpr hy, rep_sig (by omega)]; rfl
  refine Evt.step (fun k => by simp only [laws_FnFirstRuns.j6]; rw [if_pos trivial, ew, if_pos (by clear ew; omega), if_pos (by clear ew; omega), if_pos (by clear ew; omega), hfst]) ?_
  clear ew
  refine Evt.bind (RunFirst_val a sh m b c _ _) ?_
  unfold runR
  rw [if_pos hR]
  have e : runL a sh m b c (rnG a sh m b c 0 (impS x n) 1) (List.replicate (n - 1).toNat 0) (List.replicate (n - 1).toNat (0 : Int)).length = (runL a sh m b c 0 (impS x n) n.toNat).drop 1 := by
    rw [List.length_replicate]
    apply List.ext_getElem
    · simp [runL]
    · intro i h1 h2
      simp only [runL, List.getElem_map, List.getElem_range, List.getElem_drop]
      rw [tail_run c h0, Nat.add_comm 1 i]
  rw [e]
  refine Evt.pos (by omega) (Evt.pos rfl (Evt.pos (by omega) (Evt.bind (uSame_same _ (by simp [runL]; omega)) (Evt.ret _))))
theorem j5_true (t : List Int) (ht : Bytes t) : Evt (fun k => laws_FnFirstRuns.j5 k t) true := by
  obtain ⟨a, sh, m, b, c, x, n, e⟩ := draw_impulse t ht
  obtain ⟨a', sh', m', b', c', y', x', e'⟩ := draw_firstStep t ht
  refine Evt.step (fun k => by simp only [laws_FnFirstRuns.j5]; rfl) ?_
  refine Evt.bindp e (Evt.bind (ImpulseOf_val a sh m b c x n) (Evt.bind (specImpulseOf_val a sh m b c x n) (Evt.bind e' (Evt.bind (FirstStep_val a' sh' m' b' c' y' x') (Evt.bind (specFirstStep_val a' sh' m' b' c' y' x') ?_)))))
  have hl : (impR a sh m b c x n).1.length ≤ 1000000 := by
    unfold impR; split
    · rename_i h
      unfold impB at h; simp only [Bool.and_eq_true] at h
      have := inB_iff.mp h.2
      simp [runL]; omega
    · simp
  refine Evt.neg (by simp) (Evt.bind (uSame_same _ hl) (Evt.pos rfl (Evt.neg (by simp) (Evt.pos rfl ?_))))
  by_cases h : impB a sh m b x n = true
  · have er : impR a sh m b c x n = (runL a sh m b c 0 (impS x n) n.toNat, true) := by unfold impR; rw [if_pos h]
    rw [er]
    refine Evt.pos rfl ?_
    by_cases h0 : n > 0
    · rw [decide_eq_true h0]; exact j6_true c h h0
    · rw [decide_eq_false h0]
      exact Evt.step (fun k => by simp only [laws_FnFirstRuns.j6]; rw [if_neg (by simp)]) (Evt.ret _)
  · have er : impR a sh m b c x n = ([], false) := by unfold impR; rw [if_neg h]
    rw [er]
    refine Evt.neg (by simp) ?_
    exact Evt.step (fun k => by simp only [laws_FnFirstRuns.j6]; rw [if_neg (by simp)]) (Evt.ret _)

/-! ### the loops -/
theorem l1_true (t : List Int) (ht : Bytes t) {a sh m b : Int} (c : Bool) {y : Int} {s : List Int} (R : Run a sh m b y s) (hs : shrB a sh = true) (hf : fcG a sh m b c y s s.length = 0)
    (hx : ∀ i, i < s.length → pw (((i + 1 : Nat) : Int) * sh) ≤ 1000000000000 ∧ -1000000000000 ≤ exG a sh y s (i + 1) ∧ exG a sh y s (i + 1) ≤ 1000000000000) {num den g : Int} (hg : 0 < g) (e1 : num * g = pw sh) (e2 : den * g = ebD a sh m) :
    ∀ (d i : Nat), i + d = s.length → Evt (fun k => laws_FnFirstRuns.l1 k t (runL a sh m b c y s s.length) num den (pw ((i : Int) * sh)) ((List.range s.length).map (fun i : Nat => exG a sh y s (i + 1))) s.length i a sh m b c) true
  | 0, i, hd => Evt.step (fun k => by simp only [laws_FnFirstRuns.l1]; rw [if_neg (by omega)]) (j5_true t ht)
  | d + 1, i, hd => by
    have F := R.F
    have ih := l1_true t ht c R hs hf hx hg e1 e2 d (i + 1) (by omega)
    obtain ⟨x1, x2, x3⟩ := hx i (by omega)
    have hlen := R.len
    have hD := dif_bd c F hs (fc_zero hf) (i + 1) (by omega)
    have hd := ebD_rng F hs
    have hns : (0 : Int) ≤ (i : Int) * sh := Int.mul_nonneg (by omega) F.s0
    have en : (((i + 1 : Nat) : Int)) * sh = (i : Int) * sh + sh := by rw [Int.natCast_add, Int.add_mul]; simp
    have hP1 : 1 ≤ pw (((i + 1 : Nat) : Int) * sh) := by have := pw_mono (s := 0) (t := ((i + 1 : Nat) : Int) * sh) (by have := F.s0; rw [en]; omega); have ep : pw 0 = 1 := rfl; omega
    have hPi : pw ((i : Int) * sh) ≤ 1000000000000 := by have := pw_mono (s := (i : Int) * sh) (t := ((i + 1 : Nat) : Int) * sh) (by have := F.s0; rw [en]; omega); omega
    have esc : shl .i64 (pw ((i : Int) * sh)) sh = pw (((i + 1 : Nat) : Int) * sh) := by rw [en]; exact shl_pw hns F.s0 F.s20 hPi
    have hrn := has_word F.w (rnG_has c F R.y s (i + 1))
    have r1 : rd (runL a sh m b c y s s.length) i = rnG a sh m b c y s (i + 1) := rd_map (fun i : Nat => rnG a sh m b c y s (i + 1)) (by omega)
    have r2 : rd ((List.range s.length).map (fun i : Nat => exG a sh y s (i + 1))) i = exG a sh y s (i + 1) := rd_map (fun i : Nat => exG a sh y s (i + 1)) (by omega)
    have l1 : ((runL a sh m b c y s s.length).length : Int) = s.length := by simp [runL]
    have l2 : (((List.range s.length).map (fun i : Nat => exG a sh y s (i + 1))).length : Int) = s.length := by simp
    have m1 := mul_bd (a := rnG a sh m b c y s (i + 1)) (b := pw (((i + 1 : Nat) : Int) * sh)) (A := 32768) (B := 1000000000000) hrn.1 hrn.2 (by omega) x1
    have w1 : wrap64 (rnG a sh m b c y s (i + 1) * pw (((i + 1 : Nat) : Int) * sh)) = rnG a sh m b c y s (i + 1) * pw (((i + 1 : Nat) : Int) * sh) := by
      clear esc hD; generalize rnG a sh m b c y s (i + 1) * pw (((i + 1 : Nat) : Int) * sh) = p at *; exact w64 (by omega) (by omega)
    have w2 : wrap64 (rnG a sh m b c y s (i + 1) * pw (((i + 1 : Nat) : Int) * sh) - exG a sh y s (i + 1)) = dif a sh m b c y s (i + 1) := by
      clear esc hD w1
      show _ = rnG a sh m b c y s (i + 1) * pw (((i + 1 : Nat) : Int) * sh) - exG a sh y s (i + 1)
      generalize rnG a sh m b c y s (i + 1) * pw (((i + 1 : Nat) : Int) * sh) = p at *; exact w64 (by omega) (by omega)
    have hdb : -40000000000000000 ≤ dif a sh m b c y s (i + 1) ∧ dif a sh m b c y s (i + 1) ≤ 40000000000000000 := by
      clear esc hD w1 w2
      show -40000000000000000 ≤ rnG a sh m b c y s (i + 1) * pw (((i + 1 : Nat) : Int) * sh) - exG a sh y s (i + 1) ∧ rnG a sh m b c y s (i + 1) * pw (((i + 1 : Nat) : Int) * sh) - exG a sh y s (i + 1) ≤ 40000000000000000
      generalize rnG a sh m b c y s (i + 1) * pw (((i + 1 : Nat) : Int) * sh) = p at *; omega
    clear m1
    have wi : wrap64 ((i : Int) + 1) = ((i + 1 : Nat) : Int) := by clear esc hD w1 w2 e1 e2; rw [w64 (by omega) (by omega)]; rfl
    refine Evt.step (fun k => by simp only [laws_FnFirstRuns.l1]; rw [wi, r1, r2, l1, l2, esc, w1, w2, if_pos (by clear esc hD w1 w2 wi e1 e2; omega), if_pos (by clear esc hD w1 w2 wi e1 e2; omega), if_pos (by clear esc hD w1 w2 wi e1 e2; omega), if_pos F.s0, if_pos (by clear esc hD w1 w2 wi e1 e2; omega)]) ?_
    clear esc w1 w2 wi r1 r2 l1 l2
    -- num, den > 0
    have hn0 : 0 < num := by
      rcases Int.lt_or_le 0 num with h | h
      · exact h
      · have := Int.mul_nonpos_of_nonpos_of_nonneg h (show 0 ≤ g by omega); omega
    have hd0 : 0 < den := by
      rcases Int.lt_or_le 0 den with h | h
      · exact h
      · have := Int.mul_nonpos_of_nonpos_of_nonneg h (show 0 ≤ g by omega); omega
    have hn1 : num ≤ 1024 := by have : num * 1 ≤ num * g := Int.mul_le_mul_of_nonneg_left (by omega) (by omega); omega
    have hd1 : den ≤ 4096 := by have : den * 1 ≤ den * g := Int.mul_le_mul_of_nonneg_left (by omega) (by omega); omega
    have habs : laws_uAbs.f (dif a sh m b c y s (i + 1)) = some ((dif a sh m b c y s (i + 1)).natAbs : Int) := by
      unfold laws_uAbs.f
      split
      · rw [w64 (by omega) (by omega)]; congr 1; omega
      · congr 1; omega
    have hle : ((dif a sh m b c y s (i + 1)).natAbs : Int) * den ≤ num * pw (((i + 1 : Nat) : Int) * sh) := by
      have h1 : ((dif a sh m b c y s (i + 1)).natAbs : Int) * ebD a sh m ≤ pw sh * pw (((i + 1 : Nat) : Int) * sh) := by
        rcases Int.natAbs_eq (dif a sh m b c y s (i + 1)) with h | h
        · rw [← h]; exact hD.2
        · have h2 : ((dif a sh m b c y s (i + 1)).natAbs : Int) = -(dif a sh m b c y s (i + 1)) := by omega
          rw [h2, Int.neg_mul]; omega
      rw [← e1, ← e2] at h1
      have h2 : ((dif a sh m b c y s (i + 1)).natAbs : Int) * den * g ≤ num * pw (((i + 1 : Nat) : Int) * sh) * g := by
        have q1 : ((dif a sh m b c y s (i + 1)).natAbs : Int) * (den * g) = ((dif a sh m b c y s (i + 1)).natAbs : Int) * den * g := (Int.mul_assoc _ _ _).symm
        have q2 : num * g * pw (((i + 1 : Nat) : Int) * sh) = num * pw (((i + 1 : Nat) : Int) * sh) * g := by rw [Int.mul_assoc, Int.mul_comm g, ← Int.mul_assoc]
        rw [← q1, ← q2]; exact h1
      exact Int.le_of_mul_le_mul_right h2 hg
    clear hD e1 e2
    refine Evt.bindp habs (Evt.neg (by omega) (Evt.neg (by omega) ?_))
    have hT0 : (0 : Int) ≤ ((dif a sh m b c y s (i + 1)).natAbs : Int) := by omega
    have hT1 : ((dif a sh m b c y s (i + 1)).natAbs : Int) ≤ 40000000000000000 := by omega
    clear hdb habs
    generalize ((dif a sh m b c y s (i + 1)).natAbs : Int) = D at *
    generalize pw (((i + 1 : Nat) : Int) * sh) = P at *
    have q1 := Int.ediv_nonneg hT0 (show 0 ≤ num by omega)
    have q2 := Int.ediv_le_self num hT0
    have q3 := Int.ediv_nonneg (show 0 ≤ P by omega) (show 0 ≤ den by omega)
    have q4 := Int.ediv_le_self den (show 0 ≤ P by omega)
    have hq : D / num ≤ P / den := by
      refine (Int.le_ediv_iff_mul_le hd0).mpr ?_
      have z1 : D / num * num ≤ D := Int.ediv_mul_le D (by omega)
      have z2 : D / num * num * den ≤ D * den := Int.mul_le_mul_of_nonneg_right z1 (by omega)
      have z3 : D / num * den * num = D / num * num * den := by rw [Int.mul_assoc, Int.mul_comm den, ← Int.mul_assoc]
      have z4 : num * P = P * num := Int.mul_comm _ _
      have z5 : D / num * den * num ≤ P * num := by rw [z3, ← z4]; exact Int.le_trans z2 hle
      exact Int.le_of_mul_le_mul_right z5 hn0
    have v1 : wrap64 (D / num) = D / num := by clear hle; exact w64 (by omega) (by omega)
    have v2 : wrap64 (P / den) = P / den := by clear hle v1; exact w64 (by omega) (by omega)
    have v3 : wrap64 (P / den + 1) = P / den + 1 := by clear hle v1 v2; exact w64 (by omega) (by omega)
    rw [tdiv_nn hT0, tdiv_nn (show 0 ≤ P by omega), v1, v2, v3]
    clear v1 v2 v3
    refine Evt.neg (by clear hle; omega) ?_
    by_cases c1 : D ≤ 1099511627776
    · have n1 := mul_bd (a := D) (b := den) (A := 1099511627776) (B := 4096) (by omega) c1 (by omega) hd1
      have n2 := mul_bd (a := num) (b := P) (A := 1024) (B := 1000000000000) (by omega) hn1 (by omega) (by omega)
      have v1 : wrap64 (D * den) = D * den := by generalize D * den = p at *; exact w64 (by omega) (by omega)
      have v2 : wrap64 (num * P) = num * P := by clear v1; generalize num * P = p at *; exact w64 (by omega) (by omega)
      rw [v1, v2]
      clear v1 v2
      exact Evt.pos c1 (Evt.neg (by omega) ih)
    · exact Evt.neg c1 ih
/-- what the law has of the exact run and the bound -/
theorem j2_true (t : List Int) (ht : Bytes t) {a sh m b : Int} (c : Bool) {y : Int} {s : List Int} (R : Run a sh m b y s) {r : List Int × Bool} (hr : r.2 = true → r.1 = (List.range s.length).map (fun i : Nat => exG a sh y s (i + 1)) ∧ ∀ i, i < s.length → pw (((i + 1 : Nat) : Int) * sh) ≤ 1000000000000 ∧ -1000000000000 ≤ exG a sh y s (i + 1) ∧ exG a sh y s (i + 1) ≤ 1000000000000) :
    Evt (fun k => laws_FnFirstRuns.j2 k t (runL a sh m b c y s s.length) r.1 r.2 (fcG a sh m b c y s s.length) (ebR a sh m b).1 (ebR a sh m b).2.1 (ebR a sh m b).2.2 a sh m b c) true := by
  have no : ∀ u v w, Evt (fun k => laws_FnFirstRuns.j3 k t (runL a sh m b c y s s.length) u v w false a sh m b c) true := fun u v w => Evt.step (fun k => by simp only [laws_FnFirstRuns.j3]; rw [if_neg (by simp)]) (j5_true t ht)
  by_cases h1 : r.2 = true
  · by_cases h2 : (ebR a sh m b).2.2 = true
    · refine Evt.step (fun k => by simp only [laws_FnFirstRuns.j2]; rw [if_pos h1, if_pos h2]) ?_
      by_cases h3 : fcG a sh m b c y s s.length = 0
      · have hB : (firB a sh m b && shrB a sh) = true := by
          by_cases h : (firB a sh m b && shrB a sh) = true
          · exact h
          · unfold ebR at h2; rw [if_neg h] at h2; simp at h2
        have hB' := hB
        rw [Bool.and_eq_true] at hB'
        have e : ebR a sh m b = (pw sh / (Nat.gcd (pw sh).toNat (ebD a sh m).toNat : Nat), ebD a sh m / (Nat.gcd (pw sh).toNat (ebD a sh m).toNat : Nat), true) := by unfold ebR; rw [if_pos hB]
        obtain ⟨d0, d1, d2, d3⟩ := ebD_rng R.F hB'.2
        have hg : 0 < ((Nat.gcd (pw sh).toNat (ebD a sh m).toNat : Nat) : Int) := by have := Nat.gcd_pos_of_pos_left (ebD a sh m).toNat (by omega : 0 < (pw sh).toNat); omega
        have g1 : ((Nat.gcd (pw sh).toNat (ebD a sh m).toNat : Nat) : Int) ∣ pw sh := by
          have := Int.natCast_dvd_natCast.mpr (Nat.gcd_dvd_left (pw sh).toNat (ebD a sh m).toNat)
          rwa [Int.toNat_of_nonneg (by omega : 0 ≤ pw sh)] at this
        have g2 : ((Nat.gcd (pw sh).toNat (ebD a sh m).toNat : Nat) : Int) ∣ ebD a sh m := by
          have := Int.natCast_dvd_natCast.mpr (Nat.gcd_dvd_right (pw sh).toNat (ebD a sh m).toNat)
          rwa [Int.toNat_of_nonneg (by omega : 0 ≤ ebD a sh m)] at this
        have hd := hr h1
        rw [h3, e, hd.1]
        refine Evt.step (fun k => by simp only [laws_FnFirstRuns.j3]; rw [if_pos (show (((0 : Nat) : Int) == 0) = true from rfl)]) ?_
        have := l1_true t ht c R hB'.2 h3 hd.2 hg (Int.ediv_mul_cancel g1) (Int.ediv_mul_cancel g2) s.length 0 (by omega)
        have e0 : ((0 : Nat) : Int) * sh = 0 := by simp
        have ep : pw 0 = 1 := rfl
        rw [e0, ep] at this
        simpa using this
      · have : ((fcG a sh m b c y s s.length : Int) == 0) = false := by simp; omega
        rw [this]; exact no _ _ _
    · exact Evt.step (fun k => by simp only [laws_FnFirstRuns.j2]; rw [if_pos h1, if_neg h2]) (no _ _ _)
  · exact Evt.step (fun k => by simp only [laws_FnFirstRuns.j2]; rw [if_neg h1]) (no _ _ _)
theorem l0_true (t : List Int) (ht : Bytes t) {a sh m b : Int} (c : Bool) {y : Int} {s : List Int} (R : Run a sh m b y s) {r : List Int × Bool} (hr : r.2 = true → r.1 = (List.range s.length).map (fun i : Nat => exG a sh y s (i + 1)) ∧ ∀ i, i < s.length → pw (((i + 1 : Nat) : Int) * sh) ≤ 1000000000000 ∧ -1000000000000 ≤ exG a sh y s (i + 1) ∧ exG a sh y s (i + 1) ≤ 1000000000000) :
    ∀ (d i : Nat), i + d = s.length → Evt (fun k => laws_FnFirstRuns.l0 k t s (runL a sh m b c y s s.length) r.1 r.2 (fcG a sh m b c y s s.length) (ebR a sh m b).1 (ebR a sh m b).2.1 (ebR a sh m b).2.2 (rnG a sh m b c y s i) (fcG a sh m b c y s i) s s.length i a sh m b c) true
  | 0, i, hd => by
    have : i = s.length := by omega
    subst this
    refine Evt.step (fun k => ?_) (j2_true t ht c R hr)
    simp only [laws_FnFirstRuns.l0]
    rw [if_neg (by omega), if_pos trivial, if_pos (by simp [runL])]
  | d + 1, i, hd => by
    have F := R.F
    have ih := l0_true t ht c R hr d (i + 1) (by omega)
    have hlen := R.len
    have hh := rnG_has c F R.y s i
    have hn := has_word F.w hh
    have hx := R.s _ (rd_mem (l := s) (i := i) (by omega) (by omega))
    have hf := fcG_le a sh m b c y s i
    have hst : stepR a sh m b c (rnG a sh m b c y s i) (rd s i) = (rnG a sh m b c y s (i + 1), true) := by
      unfold stepR atB
      have hFB : firB a sh m b = true := by
        have := F
        unfold firB
        rw [inB_iff.mpr ⟨F.a0, F.a1⟩, inB_iff.mpr ⟨F.s0, F.s10⟩, F.m, wordB_iff.mpr F.w]; rfl
      rw [hFB, hasW_iff.mpr hh, inB_iff.mpr hx]; rfl
    have r1 : rd (runL a sh m b c y s s.length) i = rnG a sh m b c y s (i + 1) := rd_map (fun i : Nat => rnG a sh m b c y s (i + 1)) (by omega)
    have l1 : ((runL a sh m b c y s s.length).length : Int) = s.length := by simp [runL]
    have hh' := rnG_has c F R.y s (i + 1)
    have hn' := has_word F.w hh'
    have hfit : fitG b c (rnG a sh m b c y s (i + 1)) = rnG a sh m b c y s (i + 1) := fitG_id c F.w hh'.1 hh'.2
    have m1 := mul_bd (a := a) (b := rnG a sh m b c y s i) (A := 1024) (B := 32768) F.a0 F.a1 hn.1 hn.2
    have wi : wrap64 ((i : Int) + 1) = ((i + 1 : Nat) : Int) := by clear m1; rw [w64 (by omega) (by omega)]; rfl
    have wf : wrap64 ((fcG a sh m b c y s i : Int) + 1) = ((fcG a sh m b c y s i + 1 : Nat) : Int) := by clear m1 wi; rw [w64 (by omega) (by omega)]; rfl
    have wm : wrap64 (a * rnG a sh m b c y s i) = a * rnG a sh m b c y s i := by clear wi wf; generalize a * rnG a sh m b c y s i = p at *; exact w64 (by omega) (by omega)
    have hraw := rawG_bd F hn hx
    have wr : wrap64 (shG (a * rnG a sh m b c y s i) sh m + rd s i) = rawG a sh m (rnG a sh m b c y s i) (rd s i) := by clear wi wf wm m1; unfold rawG at hraw ⊢; exact w64 (by omega) (by omega)
    refine Evt.step (fun k => by simp only [laws_FnFirstRuns.l0]; rw [wi, wf, wm, r1, l1, if_pos (by clear wi wf wm wr m1; omega), if_pos (by clear wi wf wm wr m1; omega), if_pos (by clear wi wf wm wr m1; omega)]) ?_
    refine Evt.bind (FirstStep_val a sh m b c _ _) ?_
    rw [hst]
    refine Evt.bindp (fitNumber_val c F.w (by clear wi wf wm wr m1; show -1000000000 ≤ rnG a sh m b c y s (i + 1); omega) (by clear wi wf wm wr m1; show rnG a sh m b c y s (i + 1) ≤ 1000000000; omega)) ?_
    refine Evt.pos rfl (Evt.pos (by clear wi wf wm wr m1; omega) (Evt.pos rfl (Evt.pos rfl (Evt.pos hfit ?_))))
    have mb : -1000000000 ≤ a * rnG a sh m b c y s i ∧ a * rnG a sh m b c y s i ≤ 1000000000 := by clear wi wf wm wr; generalize a * rnG a sh m b c y s i = p at *; omega
    refine Evt.bind (roundShift_val F.shi F.s0 F.s20 mb.1 mb.2) (Evt.pos rfl ?_)
    show Evt (fun k => if wrap64 (shG (a * rnG a sh m b c y s i) sh m + rd s i) = rnG a sh m b c y s (i + 1) then _ else _) true
    rw [wr]
    have hfh := fit_has c F.w (rawG a sh m (rnG a sh m b c y s i) (rd s i))
    by_cases h : rawG a sh m (rnG a sh m b c y s i) (rd s i) = rnG a sh m b c y s (i + 1)
    · have e3 : fcG a sh m b c y s (i + 1) = fcG a sh m b c y s i := by simp only [fcG]; rw [if_pos (hfh.mp h.symm)]
      rw [e3] at ih
      exact Evt.pos h ih
    · have e3 : fcG a sh m b c y s (i + 1) = fcG a sh m b c y s i + 1 := by simp only [fcG]; rw [if_neg (fun h' => h (hfh.mpr h').symm)]
      rw [e3] at ih
      exact Evt.neg h ih
theorem law_true (s t : List Int) (hs : Bytes s) (ht : Bytes t) : Evt (fun k => laws_FnFirstRuns.f k s t) true := by
  unfold laws_FnFirstRuns.f
  obtain ⟨z, hz⟩ : ∃ z, laws_big.f s t = some z := by unfold laws_big.f; split <;> exact ⟨_, rfl⟩
  refine Evt.bindp hz ?_
  cases z with
  | true => exact Evt.pos rfl (Evt.ret _)
  | false =>
  obtain ⟨a, sh, m, b, c, y, u, e⟩ := draw_exactFirst s hs
  obtain ⟨r, x1, x2, x3, x4⟩ := ExactFirst_val a sh m b c y u
  refine Evt.neg (by simp) (Evt.bind e (Evt.bind (RunFirst_val a sh m b c y u) (Evt.bind (specRunFirst_val a sh m b c y u) (Evt.bind x1 (Evt.bind x2 (Evt.bind (CountFits_val a sh m b c y u) (Evt.bind (specCountFits_val a sh m b c y u) (Evt.bind (ErrorBound_val a sh m b c) (Evt.bind (specErrorBound_val a sh m b c) (Evt.bindp (IsShrinking_val a sh m b c) (Evt.bindp (specIsShrinking_val a sh m b c) ?_)))))))))))
  have l1 : (runR a sh m b c y u).1.length ≤ 1000000 := by
    unfold runR; split
    · rename_i h; have := (run_iff h).len; simp [runL]; omega
    · simp
  have l2 : r.1.length ≤ 1000000 := by
    cases h : r.2 with
    | true => have := x3 h; have hl := (run_iff this.1).len; rw [this.2.1]; simp; omega
    | false => rw [x4 h]; simp
  have hfr : (fitsR a sh m b c y u).2 = (runR a sh m b c y u).2 := by unfold fitsR runR; split <;> rfl
  have hsf : (shrR a sh m b).2 = firB a sh m b := by
    unfold shrR; split
    · rename_i h; rw [h]
    · rename_i h; simp only [Bool.not_eq_true] at h; rw [h]
  refine Evt.neg (by simp) (Evt.bind (uSame_same _ l1) (Evt.pos rfl (Evt.neg (by simp) (Evt.bind (uSame_same _ l2) (Evt.pos rfl (Evt.neg (by simp) (Evt.pos rfl (Evt.neg (by simp) (Evt.pos rfl (Evt.pos rfl (Evt.neg (by simp) (Evt.neg (by simp) (Evt.neg (by rw [hfr]; simp) ?_)))))))))))))
  have hj0 : ∀ q : Bool, q = false → Evt (fun k => laws_FnFirstRuns.j0 k t y u (runR a sh m b c y u).1 (runR a sh m b c y u).2 r.1 r.2 (fitsR a sh m b c y u).1 (ebR a sh m b).1 (ebR a sh m b).2.1 (ebR a sh m b).2.2 q a sh m b c) true := fun q hq => by
    subst hq
    by_cases h : runB a sh m b y u = true
    · have R := run_iff h
      have er : runR a sh m b c y u = (runL a sh m b c y u u.length, true) := by unfold runR; rw [if_pos h]
      have ef : fitsR a sh m b c y u = ((fcG a sh m b c y u u.length : Int), true) := by unfold fitsR; rw [if_pos h]
      rw [er, ef]
      refine Evt.step (fun k => by simp only [laws_FnFirstRuns.j0]; rw [if_neg (by simp), if_pos trivial]) ?_
      exact l0_true t ht c R (fun hh => (x3 hh).2) u.length 0 (by omega)
    · have er : runR a sh m b c y u = ([], false) := by unfold runR; rw [if_neg h]
      have hr2 : r.2 = false := by
        cases hh : r.2 with
        | true => exact absurd (x3 hh).1 h
        | false => rfl
      rw [er, hr2]
      refine Evt.step (fun k => by simp only [laws_FnFirstRuns.j0]; rw [if_neg (by simp), if_neg (by simp)]) ?_
      refine Evt.step (fun k => by simp only [laws_FnFirstRuns.j2]; rw [if_neg (by simp)]) ?_
      exact Evt.step (fun k => by simp only [laws_FnFirstRuns.j3]; rw [if_neg (by simp)]) (j5_true t ht)
  have rest : Evt (fun k => (impl_IsFirst.f a sh m b c).bind fun t557 => (if ((shrR a sh m b).2 != t557) = true then (some false) else ((impl_IsFirst.f a sh m b c).bind fun t558 => ((spec_IsFirst.f a sh m b c).bind fun t559 => (if (t558 != t559) = true then (some false) else (if (shrR a sh m b).2 = true then (laws_FnFirstRuns.j0 k t y u (runR a sh m b c y u).1 (runR a sh m b c y u).2 r.1 r.2 (fitsR a sh m b c y u).1 (ebR a sh m b).1 (ebR a sh m b).2.1 (ebR a sh m b).2.2 ((ebR a sh m b).2.2 != (shrR a sh m b).1) a sh m b c) else (laws_FnFirstRuns.j0 k t y u (runR a sh m b c y u).1 (runR a sh m b c y u).2 r.1 r.2 (fitsR a sh m b c y u).1 (ebR a sh m b).1 (ebR a sh m b).2.1 (ebR a sh m b).2.2 ((ebR a sh m b).2.2 != false) a sh m b c))))))) true := by
    refine Evt.bindp (IsFirst_val a sh m b c) (Evt.neg (by rw [hsf]; simp) (Evt.bindp (IsFirst_val a sh m b c) (Evt.bindp (specIsFirst_val a sh m b c) (Evt.neg (by simp) ?_))))
    by_cases h : (shrR a sh m b).2 = true
    · refine Evt.pos h (hj0 _ ?_)
      rw [hsf] at h
      unfold ebR shrR; rw [if_pos h, h, Bool.true_and]
      cases shrB a sh <;> simp
    · refine Evt.neg h (hj0 _ ?_)
      rw [hsf] at h
      unfold ebR; rw [Bool.eq_false_iff.mpr h]; simp
  by_cases h : r.2 = true
  · have hR := (x3 h).1
    have er : (runR a sh m b c y u).2 = true := by unfold runR; rw [if_pos hR]
    exact Evt.pos h (Evt.pos er rest)
  · exact Evt.neg h rest
theorem FnFirstRuns : laws_FnFirstRuns.Pure := fun l0 l1 _ _ h0 _ _ h1 => (law_true l0 l1 (wf_bytes h0) (wf_bytes h1)).ex

end Go.Proofs.Ytcekmdepalbnhaa.Pure
