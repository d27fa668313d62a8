/- The plain law of the first statement: resampling as the program does it answers as the words say. -/
import Derived.Test.YtjbpflfihdabhaaPFnRatesChangedx7
import Derived.Test.YtjbpflfihdabhaaRates
namespace Go.Proofs.Ytjbpflfihdabhaa.Pure
open Go.RowKit Go.Proofs.Ytjbpflfihdabhaa.PFnRatesChanged Go.Proofs.YtjbpflfihdabhaaW.PrintWords Go.Proofs.YtjbpflfihdabhaaW.PrintLast Go.Proofs.YtjbpflfihdabhaaW.PrintMore Go.Proofs.Ytjbpflfihdabhaa.Base
set_option linter.unusedVariables false
set_option linter.unusedSimpArgs false

/-! ### the statement -/
theorem out_len (s : List Int) (p q : Int) (g : Nat → Int) : (outOf s p q g).length = (lenA s.length p q).toNat := by simp [outOf]
theorem out_rd {s : List Int} {p q : Int} {g : Nat → Int} {i : Nat} (h : (i : Int) < lenA s.length p q) : rd (outOf s p q g) i = g i := by
  have hl : i < (outOf s p q g).length := by rw [out_len]; omega
  rw [rd_lt hl]; simp [outOf]
theorem out_sig {s : List Int} {p q : Int} {g : Nat → Int} (hg : ∀ i : Nat, (i : Int) < lenA s.length p q → -100000 ≤ g i ∧ g i ≤ 100000) : sig (outOf s p q g) = decide (lenA s.length p q ≤ 64) := by
  have : ∀ x ∈ outOf s p q g, -100000 ≤ x ∧ x ≤ 100000 := fun x hx => by
    simp only [outOf, List.mem_map, List.mem_range] at hx
    obtain ⟨i, hi, rfl⟩ := hx
    exact hg i (by omega)
  rw [Bool.eq_iff_iff, sig_iff, out_len]; simp only [decide_eq_true_eq]
  exact ⟨fun h => by omega, fun h => ⟨by omega, this⟩⟩
theorem j7_true (t : List Int) (k0 : Int) : Evt (fun k => laws_FnRatesChanged.j7 k t k0 (resampled t k0 1 (lineG t k0 1)).1 (resampled t k0 1 (lineG t k0 1)).2 false) true := by
  have hlen : (resampled t k0 1 (lineG t k0 1)).1.length ≤ 1000000 := by
    unfold resampled told; split
    · split
      · rename_i h1 h2; have := (sig_iff.mp h2).1; simp; omega
      · simp
    · simp
  cases hb : (resampled t k0 1 (lineG t k0 1)).2 with
  | true =>
    refine Evt.step (h := fun k => (impl_LineSamples.f k t k0 1).bind fun bt445 => (if bt445.2 = true then ((laws_iSame.f k bt445.1 (resampled t k0 1 (lineG t k0 1)).1).bind fun t449 => (some t449)) else (some false))) (fun k => ?_) (Evt.bind (line_impl t k0 1) ?_)
    · simp only [laws_FnRatesChanged.j7]; simp
    · exact Evt.pos hb (Evt.bind (iSame_same _ hlen) (Evt.ret _))
  | false =>
    refine Evt.step (h := fun _ => some true) (fun k => ?_) (Evt.ret _)
    simp only [laws_FnRatesChanged.j7]; simp
theorem resampled_len (t : List Int) (p q : Int) (g : Nat → Int) : (resampled t p q g).1.length ≤ 1000000 := by
  unfold resampled told; split
  · split
    · rename_i h1 h2; have := (sig_iff.mp h2).1; simp; omega
    · simp
  · simp
theorem toNat_div {x : Int} {n : Nat} (h : 0 ≤ x) : (x / (n : Int)).toNat = x.toNat / n := by
  obtain ⟨m, rfl⟩ : ∃ m : Nat, x = m := ⟨x.toNat, by omega⟩
  have : (m : Int) / (n : Int) = ((m / n : Nat) : Int) := (Int.natCast_ediv m n).symm
  rw [this]; exact Int.toNat_natCast _
theorem j6_true (m : List Int) (hm : Bytes m) : Evt (fun k => laws_FnRatesChanged.j6 k m) true := by
  obtain ⟨n, a, b, e1⟩ := draw_length m hm
  obtain ⟨i, c, d, e2⟩ := draw_source m hm
  obtain ⟨t, k0, e3, hf⟩ := draw_lines m hm
  obtain ⟨u, v, e4, hu, hv⟩ := draw_least m hm
  refine Evt.step (fun k => by simp only [laws_FnRatesChanged.j6]; rfl) ?_
  refine Evt.bindp e1 (Evt.bindp (LengthAfter_impl n a b) (Evt.bindp (LengthAfter_spec n a b) (Evt.bindp e2 (Evt.bindp (SourceOf_impl i c d) (Evt.bindp (SourceOf_spec i c d) (Evt.bind e3 (Evt.bind (lines_impl t k0) (Evt.bind (lines_spec t k0) (Evt.bindp e4 (Evt.bind (LeastRatio_impl u v) (Evt.bind (LeastRatio_spec u v) ?_)))))))))))
  refine Evt.neg (by simp) (Evt.pos rfl (Evt.neg (by simp) (Evt.pos rfl (Evt.pos rfl (Evt.neg (by simp) (Evt.bind (iSame_same _ (resampled_len _ _ _ _)) (Evt.pos rfl (Evt.neg (by simp) (Evt.pos rfl (Evt.pos rfl ?_))))))))))
  by_cases h : ratB u v = true
  · have hR := ratB_iff.mp h
    have hg := gcd_pos hR
    obtain ⟨⟨h1, h2⟩, h3, h4⟩ := id hR
    have e : leastR u v = (u / (Nat.gcd u.toNat v.toNat : Nat), v / (Nat.gcd u.toNat v.toNat : Nat), true) := by unfold leastR; rw [if_pos h]
    rw [e]
    have d1 : ((Nat.gcd u.toNat v.toNat : Nat) : Int) ∣ u := by
      have := Int.natCast_dvd_natCast.mpr (Nat.gcd_dvd_left u.toNat v.toNat); rwa [Int.toNat_of_nonneg (by omega)] at this
    have d2 : ((Nat.gcd u.toNat v.toNat : Nat) : Int) ∣ v := by
      have := Int.natCast_dvd_natCast.mpr (Nat.gcd_dvd_right u.toNat v.toNat); rwa [Int.toNat_of_nonneg (by omega)] at this
    generalize hG : ((Nat.gcd u.toNat v.toNat : Nat) : Int) = g at *
    have eu : u / g * g = u := Int.ediv_mul_cancel d1
    have ev : v / g * g = v := Int.ediv_mul_cancel d2
    have a1 := Int.ediv_nonneg (a := u) (b := g) (by omega) (by omega)
    have a2 := Int.ediv_nonneg (a := v) (b := g) (by omega) (by omega)
    have a3 := Int.ediv_le_self (a := u) g (by omega)
    have a4 := Int.ediv_le_self (a := v) g (by omega)
    have em : u / g * v = v / g * u := by
      have h5 : u / g * v = u / g * (v / g * g) := by rw [ev]
      have h6 : v / g * u = v / g * (u / g * g) := by rw [eu]
      rw [h5, h6, ← Int.mul_assoc, ← Int.mul_assoc, Int.mul_comm (u / g)]
    refine Evt.pos rfl (Evt.pos (by show wrap64 (u / g * v) = wrap64 (v / g * u); rw [em]) ?_)
    refine Evt.bind (common_val a1 a2) ?_
    have g1 : Nat.gcd (u / g).toNat (v / g).toNat = 1 := by
      have hgn : g = ((Nat.gcd u.toNat v.toNat : Nat) : Int) := hG.symm
      have t1 : (u / g).toNat = u.toNat / Nat.gcd u.toNat v.toNat := by
        rw [hgn, toNat_div (by omega)]
      have t2 : (v / g).toNat = v.toNat / Nat.gcd u.toNat v.toNat := by
        rw [hgn, toNat_div (by omega)]
      rw [t1, t2]
      rw [Nat.gcd_div (Nat.gcd_dvd_left _ _) (Nat.gcd_dvd_right _ _), Nat.div_self (by omega)]
    rw [g1]
    exact (j7_true t k0).eq rfl
  · have e : leastR u v = (0, 0, false) := by unfold leastR; rw [if_neg h]
    rw [e]
    exact Evt.neg (by simp) (j7_true t k0)
/-- the signal, the ratio, and what the samples at the sources are -/
theorem between {a b p y : Int} (h0 : 0 ≤ y) (h1 : y < p) : ¬ ((p - y) * a + y * b < p * a ∧ (p - y) * a + y * b < p * b) ∧ ¬ ((p - y) * a + y * b > p * a ∧ (p - y) * a + y * b > p * b) := by
  have e1 : (p - y) * a + y * b - p * a = y * (b - a) := by rw [Int.sub_mul, Int.mul_sub]; omega
  have e2 : (p - y) * a + y * b - p * b = (p - y) * (a - b) := by rw [Int.sub_mul, Int.sub_mul, Int.mul_sub, Int.mul_sub]; omega
  rcases Int.le_total a b with h | h
  · have h2 := Int.mul_nonneg h0 (by omega : 0 ≤ b - a)
    have h3 := Int.mul_nonneg (by omega : 0 ≤ p - y) (by omega : 0 ≤ b - a)
    have e3 : (p - y) * (a - b) = -((p - y) * (b - a)) := by rw [← Int.mul_neg]; congr 1; omega
    constructor <;> omega
  · have h2 := Int.mul_nonneg h0 (by omega : 0 ≤ a - b)
    have h3 := Int.mul_nonneg (by omega : 0 ≤ p - y) (by omega : 0 ≤ a - b)
    have e3 : y * (b - a) = -(y * (a - b)) := by rw [← Int.mul_neg]; congr 1; omega
    constructor <;> omega
theorem lenA_least {n p q g : Int} (hg : 0 < g) : lenA n (p * g) (q * g) = lenA n p q := by
  unfold lenA
  have e : n * (p * g) + q * g - 1 = (n * p + q) * g + (-1) := by rw [← Int.mul_assoc, ← Int.add_mul]; omega
  have e1 : (-1 : Int) / g = -1 := Int.ediv_eq_neg_one_of_neg_of_le (by omega) (by omega)
  rw [e, Int.mul_comm q g, ← Int.ediv_ediv_of_nonneg (by omega), Int.add_comm, Int.add_mul_ediv_right _ _ (by omega), e1]
  congr 1; omega
theorem outOf_len {s : List Int} {p q : Int} {g : Nat → Int} (h : 0 ≤ lenA s.length p q) : ((outOf s p q g).length : Int) = lenA s.length p q := by rw [out_len]; omega
theorem held_val (s : List Int) (p q : Int) (hs : sig s = true) (hR : Ratio p q) (hL : lenA s.length p q ≤ 64) : resampled s p q (fun i => rd s ((i : Int) * q / p)) = (outOf s p q (fun i => rd s ((i : Int) * q / p)), true) := by
  unfold resampled told
  rw [if_pos ⟨hs, ratB_iff.mpr hR⟩, if_pos]
  rw [out_sig (fun i hi => ?_)]; exact decide_eq_true hL
  have hl := (sig_iff.mp hs).1
  obtain ⟨_, _, a, _⟩ := src_body (i := i) (by omega) (by omega) hR
  exact sample_rng hs a (src_lt (by omega) (by omega) hi hR)
theorem near_cases (s : List Int) (p q : Int) (hs : sig s = true) (hR : Ratio p q) (hL : lenA s.length p q ≤ 64) (i : Nat) (hi : (i : Int) < lenA s.length p q) : nearG s p q i = rd s ((i : Int) * q / p) ∨ ((i : Int) * q / p + 1 < s.length ∧ (i : Int) * q % p ≠ 0 ∧ nearG s p q i = rd s ((i : Int) * q / p + 1)) := by
  have hl := (sig_iff.mp hs).1
  obtain ⟨_, _, a, a2, b, b2⟩ := src_body (i := i) (by omega) (by omega) hR
  have h1 := src_lt (n := s.length) (i := i) (by omega) (by omega) hi hR
  unfold nearG
  by_cases c : 2 * ((i : Int) * q % p) < p ∨ (i : Int) * q / p = (s.length : Int) - 1
  · rw [if_pos c]; exact .inl rfl
  · rw [if_neg c]; exact .inr ⟨by omega, by have := hR.1; omega, rfl⟩
theorem near_val (s : List Int) (p q : Int) (hs : sig s = true) (hR : Ratio p q) (hL : lenA s.length p q ≤ 64) : resampled s p q (nearG s p q) = (outOf s p q (nearG s p q), true) := by
  unfold resampled told
  rw [if_pos ⟨hs, ratB_iff.mpr hR⟩, if_pos]
  rw [out_sig (fun i hi => ?_)]; exact decide_eq_true hL
  have hl := (sig_iff.mp hs).1
  obtain ⟨_, _, a, _⟩ := src_body (i := i) (by omega) (by omega) hR
  rcases near_cases s p q hs hR hL i hi with h | ⟨h1, h2, h⟩
  · rw [h]; exact sample_rng hs a (src_lt (by omega) (by omega) hi hR)
  · rw [h]; exact sample_rng hs (by omega) h1
theorem law_j5 (m s : List Int) (p q : Int) (hs : sig s = true) (hR : Ratio p q) (hL : lenA s.length p q ≤ 64) (b : Bool) (L : List Int) (hLn : b = true → L = outOf s p q (lineG s p q)) (i : Nat) (hi : (i : Int) < lenA s.length p q) (x y z : Int)
    (hx : x = (i : Int) * q / p) (hy : y = (i : Int) * q % p) (hz : z = if x + 1 < (s.length : Int) then x + 1 else x)
    (ih : Evt (fun k => laws_FnRatesChanged.l0 k m s p q (outOf s p q (fun i => rd s ((i : Int) * q / p))) (outOf s p q (nearG s p q)) L b (lenA s.length p q) ((i + 1 : Nat) : Int)) true) :
    Evt (fun k => laws_FnRatesChanged.j5 k m s p q (outOf s p q (fun i => rd s ((i : Int) * q / p))) (outOf s p q (nearG s p q)) L b i x y z (lenA s.length p q) i false) true := by
  have hl := (sig_iff.mp hs).1
  have h3 := hR.1
  obtain ⟨e1, e2, a, a2, c, c2⟩ := src_body (i := i) (by omega) (by omega) hR
  have h1 := src_lt (n := s.length) (i := i) (by omega) (by omega) (by omega) hR
  rw [← hx] at a a2 h1
  rw [← hy] at c c2
  have z0 : 0 ≤ z ∧ z < (s.length : Int) := by rw [hz]; split <;> omega
  have hw : wrap64 ((i : Int) + 1) = ((i + 1 : Nat) : Int) := by rw [w64 (by omega) (by omega)]; omega
  have ih' : Evt (fun k => laws_FnRatesChanged.l0 k m s p q (outOf s p q (fun i => rd s ((i : Int) * q / p))) (outOf s p q (nearG s p q)) L b (lenA s.length p q) (wrap64 ((i : Int) + 1))) true := by rw [hw]; exact ih
  have u := sample_rng hs a h1
  have v := sample_rng hs z0.1 z0.2
  have m1 := mul_rng (A := 8) (B := 100000) (a := p) (b := rd s x) (by omega) (by omega) (by omega) (by omega)
  have m2 := mul_rng (A := 8) (B := 100000) (a := p) (b := rd s z) (by omega) (by omega) (by omega) (by omega)
  have w1 : wrap64 (p * rd s x) = p * rd s x := w64 (by omega) (by omega)
  have w2 : wrap64 (p * rd s z) = p * rd s z := w64 (by omega) (by omega)
  refine Evt.step (fun k => by simp only [laws_FnRatesChanged.j5]; rfl) ?_
  refine Evt.neg (by simp) ?_
  cases b with
  | false => exact Evt.neg (by simp) ih'
  | true =>
    have hL2 := hLn rfl
    have hll : (L.length : Int) = lenA s.length p q := by rw [hL2]; exact outOf_len (Int.le_trans (Int.natCast_nonneg i) (Int.le_of_lt hi))
    have hiL : (i : Int) < L.length := by rw [hll]; exact hi
    have hi0 : 0 ≤ (i : Int) := Int.natCast_nonneg i
    have hr : rd L i = (p - y) * rd s x + y * rd s z := by
      rw [hL2, out_rd hi]; unfold lineG lineAt; rw [← hx, ← hy, ← hz]
    obtain ⟨b1, b2⟩ := between (a := rd s x) (b := rd s z) c c2
    rw [← hr] at b1 b2
    have key : Evt (fun k => (if (rd L i) < (wrap64 (p * (rd s x))) then (if (rd L i) < (wrap64 (p * (rd s z))) then (some false) else (if (rd L i) > (wrap64 (p * (rd s x))) then (if (rd L i) > (wrap64 (p * (rd s z))) then (some false) else (laws_FnRatesChanged.l0 k m s p q (outOf s p q (fun i => rd s ((i : Int) * q / p))) (outOf s p q (nearG s p q)) L true (lenA s.length p q) (wrap64 ((i : Int) + 1)))) else (laws_FnRatesChanged.l0 k m s p q (outOf s p q (fun i => rd s ((i : Int) * q / p))) (outOf s p q (nearG s p q)) L true (lenA s.length p q) (wrap64 ((i : Int) + 1))))) else (if (rd L i) > (wrap64 (p * (rd s x))) then (if (rd L i) > (wrap64 (p * (rd s z))) then (some false) else (laws_FnRatesChanged.l0 k m s p q (outOf s p q (fun i => rd s ((i : Int) * q / p))) (outOf s p q (nearG s p q)) L true (lenA s.length p q) (wrap64 ((i : Int) + 1)))) else (laws_FnRatesChanged.l0 k m s p q (outOf s p q (fun i => rd s ((i : Int) * q / p))) (outOf s p q (nearG s p q)) L true (lenA s.length p q) (wrap64 ((i : Int) + 1)))))) true := by
      rw [w1, w2]
      by_cases d1 : rd L i < p * rd s x
      · have d2 : ¬ rd L i < p * rd s z := fun d => b1 ⟨d1, d⟩
        exact Evt.pos d1 (Evt.neg d2 (Evt.neg (by omega) ih'))
      · refine Evt.neg d1 ?_
        by_cases d3 : rd L i > p * rd s x
        · exact Evt.pos d3 (Evt.neg (fun d => b2 ⟨d3, d⟩) ih')
        · exact Evt.neg d3 ih'
    refine Evt.pos rfl (Evt.pos a (Evt.pos h1 (Evt.pos z0.1 (Evt.pos z0.2 ?_))))
    by_cases y0 : y = 0
    · refine Evt.pos y0 (Evt.pos hi0 (Evt.pos hiL (Evt.pos ?_ key)))
      rw [w1, hr, y0]; simp
    · exact Evt.neg y0 (Evt.pos hi0 (Evt.pos hiL key))
theorem law_j3 (m s : List Int) (p q : Int) (hs : sig s = true) (hR : Ratio p q) (hL : lenA s.length p q ≤ 64) (b : Bool) (L : List Int) (hLn : b = true → L = outOf s p q (lineG s p q)) (i : Nat) (hi : (i : Int) < lenA s.length p q)
    (ih : Evt (fun k => laws_FnRatesChanged.l0 k m s p q (outOf s p q (fun i => rd s ((i : Int) * q / p))) (outOf s p q (nearG s p q)) L b (lenA s.length p q) ((i + 1 : Nat) : Int)) true) :
    Evt (fun k => laws_FnRatesChanged.j3 k m s p q (outOf s p q (fun i => rd s ((i : Int) * q / p))) (outOf s p q (nearG s p q)) L b i ((i : Int) * q / p) ((i : Int) * q % p) (lenA s.length p q) i false) true := by
  have hl := (sig_iff.mp hs).1
  have h3 := hR.1
  obtain ⟨e1, e2, a, a2, c, c2⟩ := src_body (i := i) (by omega) (by omega) hR
  have h1 := src_lt (n := s.length) (i := i) (by omega) (by omega) (by omega) hR
  have hn := near_cases s p q hs hR hL i hi
  have hnl : ((outOf s p q (nearG s p q)).length : Int) = lenA s.length p q := by rw [out_len]; omega
  have r2 : rd (outOf s p q (nearG s p q)) i = nearG s p q i := out_rd hi
  have hw : wrap64 ((i : Int) * q / p + 1) = (i : Int) * q / p + 1 := w64 (by omega) (by omega)
  have hj5 := law_j5 m s p q hs hR hL b L hLn i hi _ _ _ rfl rfl rfl ih
  have hz : (if (i : Int) * q / p + 1 < (s.length : Int) then (i : Int) * q / p + 1 else (i : Int) * q / p) < (s.length : Int) ∧ 0 ≤ (if (i : Int) * q / p + 1 < (s.length : Int) then (i : Int) * q / p + 1 else (i : Int) * q / p) := by split <;> omega
  have hj4 : Evt (fun k => laws_FnRatesChanged.j4 k m s p q (outOf s p q (fun i => rd s ((i : Int) * q / p))) (outOf s p q (nearG s p q)) L b i ((i : Int) * q / p) ((i : Int) * q % p) (if (i : Int) * q / p + 1 < (s.length : Int) then (i : Int) * q / p + 1 else (i : Int) * q / p) (lenA s.length p q) i) true := by
    refine Evt.step (fun k => by simp only [laws_FnRatesChanged.j4]; rfl) ?_
    refine Evt.pos (by omega) (Evt.pos (by omega) (Evt.pos a (Evt.pos h1 ?_)))
    by_cases d : rd (outOf s p q (nearG s p q)) i = rd s ((i : Int) * q / p)
    · exact Evt.pos d hj5
    · refine Evt.neg d (Evt.pos hz.2 (Evt.pos hz.1 ?_))
      rcases hn with hn | ⟨n1, n2, n3⟩
      · exact absurd (r2.trans hn) d
      · have e : (rd (outOf s p q (nearG s p q)) i != rd s (if (i : Int) * q / p + 1 < (s.length : Int) then (i : Int) * q / p + 1 else (i : Int) * q / p)) = false := by
          rw [if_pos n1, r2, n3]; simp
        rw [e]; exact hj5
  refine Evt.step (fun k => by simp only [laws_FnRatesChanged.j3]; rfl) ?_
  refine Evt.neg (by simp) ?_
  by_cases n1 : (i : Int) * q / p + 1 < (s.length : Int)
  · rw [if_pos n1] at hj4
    refine Evt.pos (by rw [hw]; exact n1) ?_
    rw [hw]; exact hj4
  · rw [if_neg n1] at hj4
    exact Evt.neg (by rw [hw]; exact n1) hj4
theorem hold_least (s : List Int) (p q : Int) (hs : sig s = true) (hR : Ratio p q) (hL : lenA s.length p q ≤ 64) : resampled s (p / (Nat.gcd p.toNat q.toNat : Nat)) (q / (Nat.gcd p.toNat q.toNat : Nat)) (fun i => rd s ((i : Int) * (q / (Nat.gcd p.toNat q.toNat : Nat)) / (p / (Nat.gcd p.toNat q.toNat : Nat)))) = (outOf s p q (fun i => rd s ((i : Int) * q / p)), true) := by
  have hg := gcd_pos hR
  obtain ⟨⟨h1, h2⟩, h3, h4⟩ := id hR
  have d1 : ((Nat.gcd p.toNat q.toNat : Nat) : Int) ∣ p := by
    have := Int.natCast_dvd_natCast.mpr (Nat.gcd_dvd_left p.toNat q.toNat); rwa [Int.toNat_of_nonneg (by omega)] at this
  have d2 : ((Nat.gcd p.toNat q.toNat : Nat) : Int) ∣ q := by
    have := Int.natCast_dvd_natCast.mpr (Nat.gcd_dvd_right p.toNat q.toNat); rwa [Int.toNat_of_nonneg (by omega)] at this
  generalize ((Nat.gcd p.toNat q.toNat : Nat) : Int) = g at *
  obtain ⟨u, rfl⟩ := d1
  obtain ⟨v, rfl⟩ := d2
  rw [Int.mul_ediv_cancel_left u (by omega), Int.mul_ediv_cancel_left v (by omega)]
  have u1 : 1 ≤ u := by
    rcases Int.lt_or_le 0 u with h | h
    · omega
    · have := Int.mul_nonneg (by omega : 0 ≤ g) (by omega : 0 ≤ -u); rw [Int.mul_neg] at this; omega
  have v1 : 1 ≤ v := by
    rcases Int.lt_or_le 0 v with h | h
    · omega
    · have := Int.mul_nonneg (by omega : 0 ≤ g) (by omega : 0 ≤ -v); rw [Int.mul_neg] at this; omega
  have u2 : u ≤ 8 := by have := Int.mul_nonneg (by omega : 0 ≤ g - 1) (by omega : 0 ≤ u); rw [Int.sub_mul] at this; omega
  have v2 : v ≤ 8 := by have := Int.mul_nonneg (by omega : 0 ≤ g - 1) (by omega : 0 ≤ v); rw [Int.sub_mul] at this; omega
  have eL : lenA s.length (g * u) (g * v) = lenA s.length u v := by rw [Int.mul_comm g u, Int.mul_comm g v]; exact lenA_least hg
  have eO : outOf s u v (fun i => rd s ((i : Int) * v / u)) = outOf s (g * u) (g * v) (fun i => rd s ((i : Int) * (g * v) / (g * u))) := by
    unfold outOf; rw [eL]
    congr 1; funext i
    have : (i : Int) * (g * v) = g * (i * v) := by rw [Int.mul_left_comm]
    rw [this, Int.mul_ediv_mul_of_pos _ _ hg]
  rw [← eO]
  exact held_val s u v hs ⟨⟨u1, u2⟩, v1, v2⟩ (by rw [← eL]; exact hL)
theorem law_loop (m s : List Int) (p q : Int) (hs : sig s = true) (hR : Ratio p q) (hL : lenA s.length p q ≤ 64) (b : Bool) (L : List Int) (hLn : b = true → L = outOf s p q (lineG s p q)) (hm : Bytes m) : ∀ (d i : Nat), (i : Int) + d = lenA s.length p q →
    Evt (fun k => laws_FnRatesChanged.l0 k m s p q (outOf s p q (fun i => rd s ((i : Int) * q / p))) (outOf s p q (nearG s p q)) L b (lenA s.length p q) i) true
  | 0, i, h => by
    have e : leastR p q = (p / (Nat.gcd p.toNat q.toNat : Nat), q / (Nat.gcd p.toNat q.toNat : Nat), true) := by unfold leastR; rw [if_pos (ratB_iff.mpr hR)]
    have hh := hold_impl s (p / (Nat.gcd p.toNat q.toNat : Nat)) (q / (Nat.gcd p.toNat q.toNat : Nat))
    rw [hold_least s p q hs hR hL] at hh
    have hlen : (outOf s p q (fun i => rd s ((i : Int) * q / p))).length ≤ 1000000 := by rw [out_len]; omega
    refine Evt.step (fun k => by simp only [laws_FnRatesChanged.l0]; rfl) ?_
    refine Evt.neg (by omega) (Evt.bind (LeastRatio_impl p q) ?_)
    rw [e]
    exact Evt.bind hh (Evt.pos rfl (Evt.pos rfl (Evt.bind (iSame_same _ hlen) (Evt.pos rfl (j6_true m hm)))))
  | d + 1, i, h => by
    have hl := (sig_iff.mp hs).1
    have h3 := hR.1
    have ih := law_loop m s p q hs hR hL b L hLn hm d (i + 1) (by omega)
    obtain ⟨e1, e2, a, a2, c, c2⟩ := src_body (i := i) (by omega) (by omega) hR
    have h1 := src_lt (n := s.length) (i := i) (by omega) (by omega) (by omega) hR
    have hi : (i : Int) < lenA s.length p q := by omega
    have hsrc : impl_SourceOf.f i p q = some ((i : Int) * q / p, (i : Int) * q % p, true) := by
      rw [SourceOf_impl, if_pos ⟨inB_iff.mpr ⟨by omega, by omega⟩, ratB_iff.mpr hR⟩]
    have hdiv : (i : Int) * q / p * p + (i : Int) * q % p = (i : Int) * q := by rw [Int.mul_comm]; exact Int.mul_ediv_add_emod _ _
    have mq := small_mul (a := (i : Int)) (b := q) (A := 64) (B := 8) (by omega) (by omega) (by have := hR.2; omega) (by have := hR.2; omega)
    have hw1 : wrap64 (wrap64 ((i : Int) * q / p * p) + (i : Int) * q % p) = wrap64 ((i : Int) * q) := by
      rw [w64 (x := (i : Int) * q / p * p) (by omega) (by omega), hdiv]
    have hol : ((outOf s p q (fun i => rd s ((i : Int) * q / p))).length : Int) = lenA s.length p q := by rw [out_len]; omega
    have hnl : ((outOf s p q (nearG s p q)).length : Int) = lenA s.length p q := by rw [out_len]; omega
    have r1 : rd (outOf s p q (fun i => rd s ((i : Int) * q / p))) i = rd s ((i : Int) * q / p) := out_rd (g := fun i : Nat => rd s ((i : Int) * q / p)) hi
    have r2 : rd (outOf s p q (nearG s p q)) i = nearG s p q i := out_rd hi
    have hj3 := law_j3 m s p q hs hR hL b L hLn i hi ih
    refine Evt.step (fun k => by simp only [laws_FnRatesChanged.l0]; rfl) ?_
    refine (Evt.pos hi (Evt.bindp hsrc (Evt.pos rfl (Evt.neg (by show ¬ (i : Int) * q / p ≥ _; omega) (Evt.pos hw1 (Evt.pos (by omega) (Evt.pos (by rw [hol]; exact hi) (Evt.pos a (Evt.pos h1 (Evt.pos r1 ?_))))))))))
    by_cases y0 : (i : Int) * q % p = 0
    · refine Evt.pos y0 (Evt.pos (by omega) ?_)
      have e : (rd (outOf s p q (nearG s p q)) i != rd s ((i : Int) * q / p)) = false := by
        rw [r2]; unfold nearG; rw [if_pos (.inl (by omega))]; simp
      show Evt (fun k => laws_FnRatesChanged.j3 k m s p q (outOf s p q (fun i => rd s ((i : Int) * q / p))) (outOf s p q (nearG s p q)) L b i ((i : Int) * q / p) ((i : Int) * q % p) (lenA s.length p q) i (rd (outOf s p q (nearG s p q)) i != rd s ((i : Int) * q / p))) true
      rw [e]; exact hj3
    · exact Evt.neg y0 hj3
theorem law_j0 (m s : List Int) (p q : Int) (hs : sig s = true) (hR : Ratio p q) (hL : lenA s.length p q ≤ 64) (b : Bool) (L : List Int) (hLn : b = true → L = outOf s p q (lineG s p q)) (hm : Bytes m) :
    Evt (fun k => laws_FnRatesChanged.j0 k m s p q (outOf s p q (fun i => rd s ((i : Int) * q / p))) true (outOf s p q (nearG s p q)) L b false) true := by
  have hl := (sig_iff.mp hs).1
  have hLr := lenA_rng (n := s.length) (by omega) (by omega) hR
  have hlen : impl_LengthAfter.f (s.length : Int) p q = some (lenA s.length p q, true) := by
    rw [LengthAfter_impl, if_pos ⟨inB_iff.mpr ⟨by omega, by omega⟩, ratB_iff.mpr hR⟩]
  have hol : ((outOf s p q (fun i => rd s ((i : Int) * q / p))).length : Int) = lenA s.length p q := by rw [out_len]; omega
  have hnl : ((outOf s p q (nearG s p q)).length : Int) = lenA s.length p q := by rw [out_len]; omega
  have hloop := law_loop m s p q hs hR hL b L hLn hm (lenA s.length p q).toNat 0 (by omega)
  have hj1 : Evt (fun k => laws_FnRatesChanged.j1 k m s p q (outOf s p q (fun i => rd s ((i : Int) * q / p))) (outOf s p q (nearG s p q)) L b false) true := by
    refine Evt.step (fun k => by simp only [laws_FnRatesChanged.j1]; rfl) ?_
    refine Evt.neg (by simp) ?_
    rw [hol]; exact hloop
  refine Evt.step (fun k => by simp only [laws_FnRatesChanged.j0]; rfl) ?_
  refine Evt.neg (by simp) (Evt.pos trivial (Evt.bindp hlen (Evt.pos rfl (Evt.pos hol (Evt.pos hnl ?_)))))
  cases b with
  | false => exact Evt.neg (by simp) hj1
  | true =>
    refine Evt.pos rfl ?_
    have e : ((L.length : Int) != lenA s.length p q) = false := by rw [hLn rfl, out_len]; simp; omega
    show Evt (fun k => laws_FnRatesChanged.j1 k m s p q (outOf s p q (fun i => rd s ((i : Int) * q / p))) (outOf s p q (nearG s p q)) L true ((L.length : Int) != lenA s.length p q)) true
    rw [e]; exact hj1
theorem bad_val {s : List Int} {p q : Int} {g : Nat → Int} (hb : ¬ (sig s = true ∧ ratB p q = true ∧ lenA s.length p q ≤ 64)) : resampled s p q g = ([], false) := by
  unfold resampled told
  by_cases h : sig s = true ∧ ratB p q = true
  · rw [if_pos h, if_neg]
    intro e
    have := (sig_iff.mp e).1
    rw [out_len] at this
    exact hb ⟨h.1, h.2, by omega⟩
  · rw [if_neg h]
theorem line_cases (s : List Int) (p q : Int) (h : sig s = true ∧ ratB p q = true) : ∃ L b, resampled s p q (lineG s p q) = (L, b) ∧ (b = true → L = outOf s p q (lineG s p q)) := by
  unfold resampled told
  rw [if_pos h]
  split
  · exact ⟨_, _, rfl, fun _ => rfl⟩
  · exact ⟨_, _, rfl, fun e => by simp at e⟩
theorem law_true (s t : List Int) (hs : Bytes s) (ht : Bytes t) : Evt (fun k => laws_FnRatesChanged.f k s t) true := by
  unfold laws_FnRatesChanged.f
  obtain ⟨c, hc⟩ : ∃ c, laws_big.f s t = some c := by unfold laws_big.f; split <;> exact ⟨_, rfl⟩
  refine Evt.bindp hc ?_
  cases c with
  | true => exact Evt.pos rfl (Evt.ret _)
  | false =>
  obtain ⟨l, p, q, e, hf⟩ := draw_hold s hs
  refine Evt.neg (by simp) (Evt.bind e (Evt.bind (hold_impl l p q) (Evt.bind (hold_spec l p q) (Evt.bind (near_impl l p q) (Evt.bind (near_spec l p q) (Evt.bind (line_impl l p q) (Evt.bind (line_spec l p q) ?_)))))))
  have eN : (fun i : Nat => if 2 * ((i : Int) * q % p) < p ∨ (i : Int) * q / p = (l.length : Int) - 1 then rd l ((i : Int) * q / p) else rd l ((i : Int) * q / p + 1)) = nearG l p q := rfl
  have eL : (fun i : Nat => lineAt l p ((i : Int) * q / p) ((i : Int) * q % p)) = lineG l p q := rfl
  rw [eN, eL]
  refine Evt.neg (by simp) (Evt.bind (iSame_same _ (resampled_len _ _ _ _)) (Evt.pos rfl (Evt.neg (by simp) (Evt.bind (iSame_same _ (resampled_len _ _ _ _)) (Evt.pos rfl (Evt.neg (by simp) (Evt.bind (iSame_same _ (resampled_len _ _ _ _)) (Evt.pos rfl ?_))))))))
  by_cases hb : sig l = true ∧ ratB p q = true ∧ lenA l.length p q ≤ 64
  · obtain ⟨h1, h2, h3⟩ := hb
    have hR := ratB_iff.mp h2
    rw [held_val l p q h1 hR h3, near_val l p q h1 hR h3]
    obtain ⟨L, b, eLb, hLn⟩ := line_cases l p q ⟨h1, h2⟩
    rw [eLb]
    have := law_j0 t l p q h1 hR h3 b L hLn ht
    refine Evt.neg (by simp) ?_
    cases b with
    | true => exact Evt.pos rfl this
    | false => exact Evt.neg (by simp) this
  · rw [bad_val hb, bad_val hb, bad_val hb]
    refine Evt.neg (by simp) (Evt.neg (by simp) ?_)
    refine Evt.step (fun k => by simp only [laws_FnRatesChanged.j0]; rfl) ?_
    exact Evt.neg (by simp) (Evt.neg (by simp) (j6_true t ht))
theorem FnRatesChanged : laws_FnRatesChanged.Pure := fun l0 l1 _ _ h0 _ _ h1 => (law_true l0 l1 (wf_bytes h0) (wf_bytes h1)).ex

end Go.Proofs.Ytjbpflfihdabhaa.Pure
