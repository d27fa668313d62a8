/- The bits that are enough, the sizes of weights, and what the draws tell, in plain Lean. No condition. -/
import Derived.Test.YtjbpflfihdabhaaFiltersC
namespace Go.Proofs.Ytjbpflfihdabhaa.PureF
open Go.RowKit Go.Proofs.Ytjbpflfihdabhaa.PFnFiltersInWords Go.Proofs.YtjbpflfihdabhaaW.PrintWords Go.Proofs.YtjbpflfihdabhaaW.PrintLast Go.Proofs.YtjbpflfihdabhaaW.PrintMore Go.Proofs.Ytjbpflfihdabhaa.Base
set_option linter.unusedVariables false
set_option linter.unusedSimpArgs false

/-! ### bits -/
theorem pw_rng40 {s : Int} (h1 : s ≤ 39) : 1 ≤ pw s ∧ pw s ≤ 549755813888 := by
  have e : (((2 : Nat) ^ s.toNat : Nat) : Int) = (2 : Int) ^ s.toNat := Int.natCast_pow 2 _
  have h2 : (2 : Nat) ^ s.toNat ≤ 549755813888 := Nat.le_trans (Nat.pow_le_pow_right (n := 2) (by omega) (by omega : s.toNat ≤ 39)) (by decide)
  have h3 : 1 ≤ (2 : Nat) ^ s.toNat := Nat.one_le_two_pow
  unfold pw; rw [← e]
  exact ⟨Int.ofNat_le.mpr h3, Int.ofNat_le.mpr h2⟩
theorem pw_mono {s t : Int} (h : s ≤ t) : pw s ≤ pw t := by
  have e1 : (((2 : Nat) ^ s.toNat : Nat) : Int) = (2 : Int) ^ s.toNat := Int.natCast_pow 2 _
  have e2 : (((2 : Nat) ^ t.toNat : Nat) : Int) = (2 : Int) ^ t.toNat := Int.natCast_pow 2 _
  unfold pw; rw [← e1, ← e2]
  exact Int.ofNat_le.mpr (Nat.pow_le_pow_right (n := 2) (by omega) (by omega))
theorem shlp {y : Int} (h0 : 0 ≤ y) (h1 : y ≤ 40) : shl .i64 1 y = pw y := shl1 h0 h1
def fits (lo hi n : Int) : Prop := -(pw (n - 1)) ≤ lo ∧ hi < pw (n - 1)
theorem bits_loop (lo hi : Int) : ∀ (d : Nat) (n : Int), n + d = 41 → 2 ≤ n → (n > 2 → ¬ fits lo hi (n - 1)) →
    ∃ r : Int × Bool, Evt (fun k => impl_BitsNeeded.l1 k lo hi n) r ∧ Evt (fun k => spec_BitsNeeded.l1 k lo hi n) r ∧ (r.2 = true → 2 ≤ r.1 ∧ r.1 ≤ 40 ∧ fits lo hi r.1 ∧ (r.1 > 2 → ¬ fits lo hi (r.1 - 1)))
  | 0, n, hd, h2, hn => by
    refine ⟨(0, false), Evt.step (h := fun _ => some (0, false)) (fun k => ?_) (Evt.ret _), Evt.step (h := fun _ => some (0, false)) (fun k => ?_) (Evt.ret _), fun h => by simp at h⟩
    · simp only [impl_BitsNeeded.l1]; rw [if_neg (by omega)]
    · simp only [spec_BitsNeeded.l1]; rw [if_neg (by omega)]
  | d + 1, n, hd, h2, hn => by
    have hp := pw_rng40 (s := n - 1) (by omega)
    have e1 : wrap64 (n - 1) = n - 1 := w64 (by omega) (by omega)
    have e2 : wrap64 (n + 1) = n + 1 := by clear e1; exact w64 (by omega) (by omega)
    have e3 : wrap64 (-(pw (n - 1))) = -(pw (n - 1)) := by clear e1 e2; exact w64 (by omega) (by omega)
    have e4 : wrap64 (pw (n - 1) - 1) = pw (n - 1) - 1 := by clear e1 e2 e3; exact w64 (by omega) (by omega)
    have e5 : shl .i64 1 (n - 1) = pw (n - 1) := shlp (by omega) (by omega)
    have u1 : ∀ k, impl_BitsNeeded.l1 (k + 1) lo hi n = if n ≤ 40 then (if 0 ≤ n - 1 then (if lo ≥ -(pw (n - 1)) then (if hi < pw (n - 1) then some (n, true) else impl_BitsNeeded.l1 k lo hi (n + 1)) else impl_BitsNeeded.l1 k lo hi (n + 1)) else none) else some (0, false) := fun k => by
      simp only [impl_BitsNeeded.l1]; rw [e1, e5, e3, e2]
    have u2 : ∀ k, spec_BitsNeeded.l1 (k + 1) lo hi n = if n ≤ 40 then (if 0 ≤ n - 1 then (if lo ≥ -(pw (n - 1)) then (if hi ≤ pw (n - 1) - 1 then some (n, true) else spec_BitsNeeded.l1 k lo hi (n + 1)) else spec_BitsNeeded.l1 k lo hi (n + 1)) else none) else some (0, false) := fun k => by
      simp only [spec_BitsNeeded.l1]; rw [e1, e5, e3, e4, e2]
    clear e1 e2 e3 e4 e5
    by_cases c : fits lo hi n
    · obtain ⟨c1, c2⟩ := id c
      refine ⟨(n, true), Evt.step (h := fun _ => some (n, true)) (fun k => ?_) (Evt.ret _), Evt.step (h := fun _ => some (n, true)) (fun k => ?_) (Evt.ret _), fun _ => ⟨h2, by show n ≤ 40; omega, c, hn⟩⟩
      · rw [u1, if_pos (by omega), if_pos (by omega), if_pos (by omega), if_pos (by omega)]
      · rw [u2, if_pos (by omega), if_pos (by omega), if_pos (by omega), if_pos (by omega)]
    · obtain ⟨r, a, b, hr⟩ := bits_loop lo hi d (n + 1) (by omega) (by omega) (fun _ => by rw [show n + 1 - 1 = n by omega]; exact c)
      refine ⟨r, Evt.step (fun k => ?_) a, Evt.step (fun k => ?_) b, hr⟩
      · rw [u1, if_pos (by omega), if_pos (by omega)]
        by_cases c1 : lo ≥ -(pw (n - 1))
        · rw [if_pos c1, if_neg (fun h => c ⟨c1, h⟩)]
        · rw [if_neg c1]
      · rw [u2, if_pos (by omega), if_pos (by omega)]
        by_cases c1 : lo ≥ -(pw (n - 1))
        · rw [if_pos c1, if_neg (fun h => c ⟨c1, by omega⟩)]
        · rw [if_neg c1]
/-- the least and the greatest that a weight makes of a number of a word -/
def Lw (H x : Int) : Int := mn (x * -H) (x * (H - 1))
def Up (H x : Int) : Int := mx (x * -H) (x * (H - 1))
theorem LU {H x : Int} (hH : 2 ≤ H) (hH1 : H ≤ 32768) : Lw H x ≤ 0 ∧ 0 ≤ Up H x ∧ (∀ y, -H ≤ y → y ≤ H - 1 → Lw H x ≤ x * y ∧ x * y ≤ Up H x) ∧ mx x (-x) * H ≤ -(Lw H x) + mx x (-x) ∧ -(Lw H x) ≤ mx x (-x) * H ∧ Up H x ≤ mx x (-x) * H := by
  rcases Int.le_total 0 x with c | c
  · have e1 : ∀ a b, a ≤ b → x * a ≤ x * b := fun a b h => Int.mul_le_mul_of_nonneg_left h c
    have h1 := e1 (-H) (H - 1) (by omega)
    have h2 := e1 (-H) 0 (by omega)
    have h3 := e1 0 (H - 1) (by omega)
    have h4 : x * -H = -(x * H) := Int.mul_neg x H
    have h5 : x * (H - 1) = x * H - x := by rw [Int.mul_sub, Int.mul_one]
    have em : mx x (-x) = x := by unfold mx; split <;> omega
    rw [Int.mul_zero] at h2 h3
    have a : Lw H x = x * -H := by unfold Lw mn; rw [if_neg (by omega)]
    have b : Up H x = x * (H - 1) := by unfold Up mx; split <;> omega
    rw [a, b, em]
    refine ⟨by omega, by omega, fun y g1 g2 => ⟨e1 _ _ g1, e1 _ _ g2⟩, by omega, by omega, by omega⟩
  · have e1 : ∀ a b, a ≤ b → x * b ≤ x * a := fun a b h => Int.mul_le_mul_of_nonpos_left c h
    have h1 := e1 (-H) (H - 1) (by omega)
    have h2 := e1 (-H) 0 (by omega)
    have h3 := e1 0 (H - 1) (by omega)
    have h4 : x * -H = -(x * H) := Int.mul_neg x H
    have h5 : x * (H - 1) = x * H - x := by rw [Int.mul_sub, Int.mul_one]
    have h6 : -x * H = -(x * H) := Int.neg_mul x H
    have em : mx x (-x) = -x := by unfold mx; split <;> omega
    rw [Int.mul_zero] at h2 h3
    have a : Lw H x = x * (H - 1) := by unfold Lw mn; split <;> omega
    have b : Up H x = x * -H := by unfold Up mx; rw [if_neg (by omega)]
    rw [a, b, em]
    refine ⟨by omega, by omega, fun y g1 g2 => ⟨e1 _ _ g2, e1 _ _ g1⟩, by omega, by omega, by omega⟩
theorem LU_bd {H x : Int} (hH : 2 ≤ H) (hH1 : H ≤ 32768) (h0 : -1000 ≤ x) (h1 : x ≤ 1000) : -32768000 ≤ Lw H x ∧ Up H x ≤ 32768000 := by
  obtain ⟨_, _, _, _, h2, h3⟩ := LU (x := x) hH hH1
  have hm : -1000 ≤ mx x (-x) ∧ mx x (-x) ≤ 1000 := by unfold mx; split <;> omega
  have := mul_bd hm.1 hm.2 (show -32768 ≤ H by omega) hH1
  omega
def loS (H : Int) (l : List Int) (k : Nat) : Int := sm (fun j => Lw H (rd l j)) k
def hiS (H : Int) (l : List Int) (k : Nat) : Int := sm (fun j => Up H (rd l j)) k
theorem loS_bd {H : Int} (hH : 2 ≤ H) (hH1 : H ≤ 32768) {l : List Int} (hl : ∀ x ∈ l, -1000 ≤ x ∧ x ≤ 1000) {k : Nat} (hk : k ≤ l.length) (h9 : k ≤ 9) : -294912000 ≤ loS H l k ∧ loS H l k ≤ 0 ∧ 0 ≤ hiS H l k ∧ hiS H l k ≤ 294912000 := by
  have h0 : ∀ j, j < k → -32768000 ≤ Lw H (rd l j) ∧ Lw H (rd l j) ≤ 32768000 := fun j hj => by
    have a := hl _ (rd_mem (l := l) (i := j) (by omega) (by omega))
    have b := LU_bd hH hH1 a.1 a.2
    have c := (LU (x := rd l j) hH hH1).1
    omega
  have h1 : ∀ j, j < k → -32768000 ≤ Up H (rd l j) ∧ Up H (rd l j) ≤ 32768000 := fun j hj => by
    have a := hl _ (rd_mem (l := l) (i := j) (by omega) (by omega))
    have b := LU_bd hH hH1 a.1 a.2
    have c := (LU (x := rd l j) hH hH1).2.1
    omega
  have a := sm_bd k h0
  have b := sm_bd k h1
  have c := sm_le (f := fun j => Lw H (rd l j)) (g := fun _ => 0) k (fun j _ => (LU (x := rd l j) hH hH1).1)
  have d := sm_le (f := fun _ => 0) (g := fun j => Up H (rd l j)) k (fun j _ => (LU (x := rd l j) hH hH1).2.1)
  have z : ∀ n, sm (fun _ => 0) n = 0 := fun n => by induction n with
    | zero => rfl
    | succ n ih => simp only [sm]; omega
  rw [z] at c d
  unfold loS hiS
  omega
theorem least_val (a b : Int) : spec_l1Least.f a b = some (mn a b) := by unfold spec_l1Least.f mn; split <;> split <;> first | rfl | (congr 1; omega)
theorem most_val (a b : Int) : spec_l1Most.f a b = some (mx a b) := by unfold spec_l1Most.f mx; split <;> split <;> first | rfl | (congr 1; omega)
theorem impl_bits_sum {b : Int} (c : Bool) (W : WordB b) {l : List Int} (h9 : l.length ≤ 9) (hl : ∀ x ∈ l, -1000 ≤ x ∧ x ≤ 1000) (r : Int × Bool)
    (ho : Evt (fun k => impl_BitsNeeded.l1 k (loS (Hf b) l l.length) (hiS (Hf b) l l.length) 2) r) :
    ∀ (d n : Nat), n + d = l.length → Evt (fun k => impl_BitsNeeded.l0 k (-(Hf b)) (Hf b - 1) (loS (Hf b) l n) (hiS (Hf b) l n) l l.length n) r
  | 0, n, hd => by
    have : n = l.length := by omega
    subst this
    refine Evt.step (fun k => ?_) ho
    simp only [impl_BitsNeeded.l0]
    rw [if_neg (by omega)]
  | d + 1, n, hd => by
    have ih := impl_bits_sum c W h9 hl r ho d (n + 1) (by omega)
    have hr := Hf_rng W
    refine Evt.step (fun k => ?_) ih
    have a := hl _ (rd_mem (l := l) (i := n) (by omega) (by omega))
    have m1 := mul_bd a.1 a.2 (show -32768 ≤ -(Hf b) by omega) (show -(Hf b) ≤ 32768 by omega)
    have m2 := mul_bd a.1 a.2 (show -32768 ≤ Hf b - 1 by omega) (show Hf b - 1 ≤ 32768 by omega)
    have q := loS_bd hr.1 hr.2 hl (k := n) (by omega) (by omega)
    have q' := loS_bd hr.1 hr.2 hl (k := n + 1) (by omega) (by omega)
    have e1 : wrap64 (rd l n * -(Hf b)) = rd l n * -(Hf b) := by generalize rd l n * -(Hf b) = p at *; exact w64 (by omega) (by omega)
    have e2 : wrap64 (rd l n * (Hf b - 1)) = rd l n * (Hf b - 1) := by clear e1; generalize rd l n * (Hf b - 1) = p at *; exact w64 (by omega) (by omega)
    have e3 : loS (Hf b) l (n + 1) = loS (Hf b) l n + mn (rd l n * -(Hf b)) (rd l n * (Hf b - 1)) := rfl
    have e4 : hiS (Hf b) l (n + 1) = hiS (Hf b) l n + mx (rd l n * -(Hf b)) (rd l n * (Hf b - 1)) := rfl
    have e5 : wrap64 (loS (Hf b) l n + mn (rd l n * -(Hf b)) (rd l n * (Hf b - 1))) = loS (Hf b) l (n + 1) := by
      rw [← e3]; clear e1 e2 e3 e4 m1 m2; exact w64 (by omega) (by omega)
    have e6 : wrap64 (hiS (Hf b) l n + mx (rd l n * -(Hf b)) (rd l n * (Hf b - 1))) = hiS (Hf b) l (n + 1) := by
      rw [← e4]; clear e1 e2 e3 e4 e5 m1 m2; exact w64 (by omega) (by omega)
    have e7 : wrap64 ((n : Int) + 1) = ((n + 1 : Nat) : Int) := by clear e1 e2 e3 e4 e5 e6 m1 m2; rw [w64 (by omega) (by omega)]; rfl
    simp only [impl_BitsNeeded.l0]
    skip
    rw [e1, e2, e5, e6, e7]
    clear e1 e2 e3 e4 e5 e6 e7 m1 m2
    rw [if_pos (by omega), if_pos (by omega), if_pos (by omega)]
theorem spec_bits_sum {b : Int} (c : Bool) (W : WordB b) {l : List Int} (h9 : l.length ≤ 9) (hl : ∀ x ∈ l, -1000 ≤ x ∧ x ≤ 1000) (r : Int × Bool)
    (ho : Evt (fun k => spec_BitsNeeded.l1 k (loS (Hf b) l l.length) (hiS (Hf b) l l.length) 2) r) :
    ∀ (d n : Nat), n + d = l.length → Evt (fun k => spec_BitsNeeded.l0 k  (loS (Hf b) l n) (hiS (Hf b) l n) l l.length n b c) r
  | 0, n, hd => by
    have : n = l.length := by omega
    subst this
    refine Evt.step (fun k => ?_) ho
    simp only [spec_BitsNeeded.l0]
    rw [if_neg (by omega)]
  | d + 1, n, hd => by
    have ih := spec_bits_sum c W h9 hl r ho d (n + 1) (by omega)
    have hr := Hf_rng W
    refine Evt.step (fun k => ?_) ih
    have a := hl _ (rd_mem (l := l) (i := n) (by omega) (by omega))
    have m1 := mul_bd a.1 a.2 (show -32768 ≤ -(Hf b) by omega) (show -(Hf b) ≤ 32768 by omega)
    have m2 := mul_bd a.1 a.2 (show -32768 ≤ Hf b - 1 by omega) (show Hf b - 1 ≤ 32768 by omega)
    have q := loS_bd hr.1 hr.2 hl (k := n) (by omega) (by omega)
    have q' := loS_bd hr.1 hr.2 hl (k := n + 1) (by omega) (by omega)
    have e1 : wrap64 (rd l n * -(Hf b)) = rd l n * -(Hf b) := by generalize rd l n * -(Hf b) = p at *; exact w64 (by omega) (by omega)
    have e2 : wrap64 (rd l n * (Hf b - 1)) = rd l n * (Hf b - 1) := by clear e1; generalize rd l n * (Hf b - 1) = p at *; exact w64 (by omega) (by omega)
    have e3 : loS (Hf b) l (n + 1) = loS (Hf b) l n + mn (rd l n * -(Hf b)) (rd l n * (Hf b - 1)) := rfl
    have e4 : hiS (Hf b) l (n + 1) = hiS (Hf b) l n + mx (rd l n * -(Hf b)) (rd l n * (Hf b - 1)) := rfl
    have e5 : wrap64 (loS (Hf b) l n + mn (rd l n * -(Hf b)) (rd l n * (Hf b - 1))) = loS (Hf b) l (n + 1) := by
      rw [← e3]; clear e1 e2 e3 e4 m1 m2; exact w64 (by omega) (by omega)
    have e6 : wrap64 (hiS (Hf b) l n + mx (rd l n * -(Hf b)) (rd l n * (Hf b - 1))) = hiS (Hf b) l (n + 1) := by
      rw [← e4]; clear e1 e2 e3 e4 e5 m1 m2; exact w64 (by omega) (by omega)
    have e7 : wrap64 ((n : Int) + 1) = ((n + 1 : Nat) : Int) := by clear e1 e2 e3 e4 e5 e6 m1 m2; rw [w64 (by omega) (by omega)]; rfl
    simp only [spec_BitsNeeded.l0]
    (rw [low_val c W, high_val c W]; simp only [Option.bind_some]; rw [least_val, most_val]; simp only [Option.bind_some])
    rw [e1, e2, e5, e6, e7]
    clear e1 e2 e3 e4 e5 e6 e7 m1 m2
    rw [if_pos (by omega), if_pos (by omega), if_pos (by omega)]
theorem bits_val (l : List Int) (b : Int) (c : Bool) : ∃ r : Int × Bool, Evt (fun k => impl_BitsNeeded.f k l b c) r ∧ Evt (fun k => spec_BitsNeeded.f k l b c) r ∧
    (r.2 = true → WordB b ∧ (1 ≤ l.length ∧ l.length ≤ 9) ∧ (∀ x ∈ l, -1000 ≤ x ∧ x ≤ 1000) ∧ 2 ≤ r.1 ∧ r.1 ≤ 40 ∧ fits (loS (Hf b) l l.length) (hiS (Hf b) l l.length) r.1 ∧ (r.1 > 2 → ¬ fits (loS (Hf b) l l.length) (hiS (Hf b) l l.length) (r.1 - 1))) := by
  by_cases h1 : wei l = true
  · obtain ⟨g1, g2⟩ := wei_iff.mp h1
    by_cases h2 : wordB b = true
    · have W := wordB_iff.mp h2
      obtain ⟨r, x, y, hr⟩ := bits_loop (loS (Hf b) l l.length) (hiS (Hf b) l l.length) 39 2 (by omega) (by omega) (fun h => by omega)
      refine ⟨r, ?_, ?_, fun e => ⟨W, g1, g2, hr e⟩⟩
      · unfold impl_BitsNeeded.f
        refine Evt.bindp (isWeights_val l) (Evt.pos h1 (Evt.bindp (isWord_val b c) ?_))
        rw [h2]
        refine Evt.step (fun k => by simp only [impl_BitsNeeded.j0]; rw [if_neg (by simp)]) ?_
        exact Evt.bindp (ends_val c W) (impl_bits_sum c W g1.2 g2 r x l.length 0 (by omega))
      · unfold spec_BitsNeeded.f
        refine Evt.bind (weGood_val l) (Evt.pos h1 (Evt.bindp (wdGood_val b c) ?_))
        rw [h2]
        refine Evt.step (fun k => by simp only [spec_BitsNeeded.j0]; rw [if_neg (by simp)]) ?_
        exact spec_bits_sum c W g1.2 g2 r y l.length 0 (by omega)
    · refine ⟨(0, false), ?_, ?_, fun e => by simp at e⟩
      · unfold impl_BitsNeeded.f
        refine Evt.bindp (isWeights_val l) (Evt.pos h1 (Evt.bindp (isWord_val b c) ?_))
        rw [Bool.eq_false_iff.mpr h2]
        exact Evt.step (fun k => by simp only [impl_BitsNeeded.j0]; rw [if_pos (by simp)]) (Evt.ret _)
      · unfold spec_BitsNeeded.f
        refine Evt.bind (weGood_val l) (Evt.pos h1 (Evt.bindp (wdGood_val b c) ?_))
        rw [Bool.eq_false_iff.mpr h2]
        exact Evt.step (fun k => by simp only [spec_BitsNeeded.j0]; rw [if_pos (by simp)]) (Evt.ret _)
  · refine ⟨(0, false), ?_, ?_, fun e => by simp at e⟩
    · unfold impl_BitsNeeded.f
      exact Evt.bindp (isWeights_val l) (Evt.neg h1 (Evt.step (fun k => by simp only [impl_BitsNeeded.j0]; rw [if_pos trivial]) (Evt.ret _)))
    · unfold spec_BitsNeeded.f
      exact Evt.bind (weGood_val l) (Evt.neg h1 (Evt.step (fun k => by simp only [spec_BitsNeeded.j0]; rw [if_pos trivial]) (Evt.ret _)))

/-! ### sizes -/
def szS (l : List Int) (k : Nat) : Int := sm (fun j => mx (rd l j) (-(rd l j))) k
theorem szS_bd {l : List Int} (hl : ∀ x ∈ l, -1000 ≤ x ∧ x ≤ 1000) {k : Nat} (hk : k ≤ l.length) (h9 : k ≤ 9) : -9000 ≤ szS l k ∧ szS l k ≤ 9000 := by
  have := sm_bd (f := fun j => mx (rd l j) (-(rd l j))) (B := 1000) k (fun j hj => by
    have a := hl _ (rd_mem (l := l) (i := j) (by omega) (by omega))
    unfold mx; split <;> omega)
  unfold szS; omega
theorem size_loop {l : List Int} (h9 : l.length ≤ 9) (hl : ∀ x ∈ l, -1000 ≤ x ∧ x ≤ 1000) : ∀ (d n : Nat), n + d = l.length → Evt (fun k => impl_SizeGain.l0 k (szS l n) l l.length n) (szS l l.length, true)
  | 0, n, hd => by
    have : n = l.length := by omega
    subst this
    refine Evt.step (h := fun _ => some (szS l l.length, true)) (fun k => ?_) (Evt.ret _)
    simp only [impl_SizeGain.l0]
    rw [if_neg (by omega)]
  | d + 1, n, hd => by
    have ih := size_loop h9 hl d (n + 1) (by omega)
    refine Evt.step (fun k => ?_) ih
    have a := hl _ (rd_mem (l := l) (i := n) (by omega) (by omega))
    have q' := szS_bd hl (k := n + 1) (by omega) (by omega)
    have e1 : wrap64 (-(rd l n)) = -(rd l n) := w64 (by omega) (by omega)
    have e3 : szS l (n + 1) = szS l n + mx (rd l n) (-(rd l n)) := rfl
    have e5 : wrap64 (szS l n + mx (rd l n) (-(rd l n))) = szS l (n + 1) := by rw [← e3]; clear e1 e3; exact w64 (by omega) (by omega)
    have e7 : wrap64 ((n : Int) + 1) = ((n + 1 : Nat) : Int) := by clear e1 e3 e5; rw [w64 (by omega) (by omega)]; rfl
    simp only [impl_SizeGain.l0, impl_size.f, Option.bind_some]
    rw [e1, e5, e7]
    clear e1 e3 e5 e7
    rw [if_pos (by omega), if_pos (by omega), if_pos (by omega)]
theorem sizeGain_val {l : List Int} (h1 : 1 ≤ l.length ∧ l.length ≤ 9) (hl : ∀ x ∈ l, -1000 ≤ x ∧ x ≤ 1000) : Evt (fun k => impl_SizeGain.f k l) (szS l l.length, true) := by
  unfold impl_SizeGain.f
  exact Evt.bindp (isWeights_val l) (Evt.pos (wei_iff.mpr ⟨h1, hl⟩) (size_loop h1.2 hl l.length 0 (by omega)))
theorem sm_mul (f : Nat → Int) (H : Int) : ∀ n, sm (fun k => f k * H) n = sm f n * H
  | 0 => by simp [sm]
  | n + 1 => by simp only [sm]; rw [sm_mul f H n, Int.add_mul]
theorem sm_add (f g : Nat → Int) : ∀ n, sm (fun k => f k + g k) n = sm f n + sm g n
  | 0 => by simp [sm]
  | n + 1 => by simp only [sm]; rw [sm_add f g n]; omega
theorem sm_neg (f : Nat → Int) : ∀ n, sm (fun k => -(f k)) n = -(sm f n)
  | 0 => by simp [sm]
  | n + 1 => by simp only [sm]; rw [sm_neg f n]; omega
theorem size_laws {H : Int} (hH : 2 ≤ H) (hH1 : H ≤ 32768) (l : List Int) (n : Nat) : szS l n * H ≤ -(loS H l n) + szS l n ∧ -(loS H l n) ≤ szS l n * H ∧ hiS H l n ≤ szS l n * H := by
  unfold szS loS hiS
  rw [← sm_mul, ← sm_neg, ← sm_add]
  exact ⟨sm_le n (fun k _ => (LU (x := rd l k) hH hH1).2.2.2.1), sm_le n (fun k _ => (LU (x := rd l k) hH hH1).2.2.2.2.1), sm_le n (fun k _ => (LU (x := rd l k) hH hH1).2.2.2.2.2)⟩

/-! ### what is drawn -/
theorem back_loop (l : List Int) (hl : l.length ≤ 1000000) : ∀ (n : Nat) (out : List Int), n ≤ l.length → out.length + n ≤ 1000000 → ∃ r, Evt (fun k => spec_weBack.l0 k l out ((n : Int) - 1)) r ∧ r.length = out.length + n
  | 0, out, h, ho => ⟨out, Evt.step (h := fun _ => some out) (fun k => by simp only [spec_weBack.l0]; rw [if_neg (by omega)]) (Evt.ret _), by omega⟩
  | n + 1, out, h, ho => by
    obtain ⟨r, a, b⟩ := back_loop l hl n (out ++ [rd l n]) (by omega) (by simp; omega)
    have e0 : ((n + 1 : Nat) : Int) - 1 = n := by omega
    have e1 : wrap64 ((n : Int) - 1) = (n : Int) - 1 := w64 (by omega) (by omega)
    refine ⟨r, Evt.step (fun k => ?_) a, by rw [b]; simp; omega⟩
    simp only [spec_weBack.l0]
    rw [e0, e1]
    clear e1
    rw [if_pos (by omega), if_pos (by omega), if_pos (by omega), if_pos (by omega)]
theorem back_some (l : List Int) (hl : l.length ≤ 1000) : ∃ r, Evt (fun k => spec_weBack.f k l) r ∧ r.length = l.length := by
  obtain ⟨r, a, b⟩ := back_loop l (by omega) l.length [] (Nat.le_refl _) (by simp; omega)
  refine ⟨r, ?_, by simpa using b⟩
  unfold spec_weBack.f
  rw [w64 (x := (l.length : Int) - 1) (by omega) (by omega)]
  exact a
theorem scale_loop (l : List Int) (x : Int) (hl : l.length ≤ 1000) : ∀ (d n : Nat) (out : List Int), n + d = l.length → out.length + d ≤ 1000 → ∃ r, Evt (fun k => spec_wdScale.l0 k x out l l.length n) r ∧ r.length = out.length + d
  | 0, n, out, h, ho => ⟨out, Evt.step (h := fun _ => some out) (fun k => by simp only [spec_wdScale.l0]; rw [if_neg (by omega)]) (Evt.ret _), by omega⟩
  | d + 1, n, out, h, ho => by
    obtain ⟨r, a, b⟩ := scale_loop l x hl d (n + 1) (out ++ [wrap64 (x * rd l n)]) (by omega) (by simp; omega)
    have e1 : wrap64 ((n : Int) + 1) = ((n + 1 : Nat) : Int) := by rw [w64 (by omega) (by omega)]; rfl
    refine ⟨r, Evt.step (fun k => ?_) a, by rw [b]; simp; omega⟩
    simp only [spec_wdScale.l0]
    rw [e1]
    clear e1
    rw [if_pos (by omega), if_pos (by omega), if_pos (by omega), if_pos (by omega)]
theorem scale_some (l : List Int) (x : Int) (hl : l.length ≤ 1000) : ∃ r, Evt (fun k => spec_wdScale.f k l x) r ∧ r.length = l.length := by
  obtain ⟨r, a, b⟩ := scale_loop l x hl l.length 0 [] (by omega) (by simp; omega)
  exact ⟨r, a, by simpa using b⟩
theorem among2_some (s : List Int) (p seed : Int) (a b : List Int) (hs : Bytes s) (h0 : 0 ≤ p) (h1 : p ≤ 900000) :
    ∃ r p' seed', spec_l1Cur_among2.f s p seed a b = some (r, p', seed') ∧ (r = a ∨ r = b) ∧ p ≤ p' ∧ p' ≤ p + 2 := by
  obtain ⟨c, p1, s1, e, g1, g2⟩ := one_some s p seed 2 hs h0 h1 (by omega)
  unfold spec_l1Cur_among2.f
  rw [e]; simp only [Option.bind_some]
  cases c with
  | true => exact ⟨_, _, _, by rw [if_pos rfl], Or.inl rfl, g1, g2⟩
  | false => exact ⟨_, _, _, by rw [if_neg (by simp)], Or.inr rfl, g1, g2⟩
theorem weights_loop (s : List Int) (hs : Bytes s) : ∀ (d : Nat) (out : List Int) (p seed : Int), 0 ≤ p → p + 4 * d + 10 ≤ 900000 → out.length + d ≤ 100 →
    ∃ r p' seed', Evt (fun k => spec_l1Cur_weights.l0 k out d s p seed) (r, p', seed') ∧ r.length ≤ 210 ∧ p ≤ p' ∧ p' ≤ p + 4 * d + 10
  | 0, out, p, seed, h0, h1, hl => by
    obtain ⟨x, p1, s1, e1, a1, b1, g1, g2⟩ := pick_some s p seed 16 hs h0 (by omega) (by omega)
    suffices ∃ r p' seed', Evt (fun k => if x = 0 then ((spec_l1Cur_among2.f s p1 s1 out (([] : List Int))).bind fun bt176 => (some (bt176.1, bt176.2.1, bt176.2.2))) else (if x = 1 then ((spec_l1Cur_among.f s p1 s1 (([1000, (-1000), 1001, 4611686018427387904] : List Int))).bind fun bt184 => (if out.length < 17592186044416 then (some ((out ++ [bt184.1]), bt184.2.1, bt184.2.2)) else (none))) else (if x = 2 then ((spec_l1Cur_pick.f s p1 s1 2).bind fun bt190 => (if 0 ≤ (wrap64 (9 + bt190.1)) then (if (wrap64 (9 + bt190.1) : Int).toNat ≤ 35184372088832 then (some ((List.replicate (wrap64 (9 + bt190.1) : Int).toNat 0), bt190.2.1, bt190.2.2)) else (none)) else (none))) else (if x = 3 then ((spec_weBack.f k out).bind fun t196 => (if t196.length + out.length < 17592186044416 then (some ((t196 ++ out), p1, s1)) else (none))) else (if x = 4 then ((spec_weBack.f k out).bind fun t202 => ((spec_wdScale.f k t202 (-1)).bind fun t205 => (if t205.length + out.length < 17592186044416 then (some ((t205 ++ out), p1, s1)) else (none)))) else (some (out, p1, s1))))))) (r, p', seed') ∧ r.length ≤ 210 ∧ p ≤ p' ∧ p' ≤ p + 10 by
      obtain ⟨r, p', sd, hr, q1, q2, q3⟩ := this
      refine ⟨r, p', sd, Evt.step (fun k => ?_) hr, q1, q2, by omega⟩
      simp only [spec_l1Cur_weights.l0]
      rw [if_neg (by omega), e1]; rfl
    by_cases c0 : x = 0
    · obtain ⟨r, p2, s2, e2, hr, g3, g4⟩ := among2_some s p1 s1 out [] hs (by omega) (by omega)
      refine ⟨r, p2, s2, Evt.pos c0 (Evt.bindp e2 (Evt.ret _)), ?_, by omega, by omega⟩
      rcases hr with rfl | rfl
      · omega
      · simp
    by_cases c1 : x = 1
    · obtain ⟨y, p2, s2, e2, m2, g3, g4⟩ := among_some s p1 s1 [1000, (-1000), 1001, 4611686018427387904] hs (by omega) (by omega) (by simp) (by simp)
      exact ⟨out ++ [y], p2, s2, Evt.neg c0 (Evt.pos c1 (Evt.bindp e2 (Evt.pos (by omega) (Evt.ret _)))), by simp; omega, by omega, by omega⟩
    by_cases c2 : x = 2
    · obtain ⟨y, p2, s2, e2, a2, b2, g3, g4⟩ := pick_some s p1 s1 2 hs (by omega) (by omega) (by omega)
      have hw : wrap64 (9 + y) = 9 + y := w64 (by omega) (by omega)
      refine ⟨List.replicate (9 + y).toNat 0, p2, s2, Evt.neg c0 (Evt.neg c1 (Evt.pos c2 (Evt.bindp e2 ?_))), by simp; omega, by omega, by omega⟩
      simp only [hw]
      exact Evt.pos (by omega) (Evt.pos (by omega) (Evt.ret _))
    by_cases c3 : x = 3
    · obtain ⟨t, e, hl'⟩ := back_some out (by omega)
      exact ⟨t ++ out, p1, s1, Evt.neg c0 (Evt.neg c1 (Evt.neg c2 (Evt.pos c3 (Evt.bind e (Evt.pos (by omega) (Evt.ret _)))))), by simp; omega, by omega, by omega⟩
    by_cases c4 : x = 4
    · obtain ⟨t, e, hl'⟩ := back_some out (by omega)
      obtain ⟨u, e', hl''⟩ := scale_some t (-1) (by omega)
      exact ⟨u ++ out, p1, s1, Evt.neg c0 (Evt.neg c1 (Evt.neg c2 (Evt.neg c3 (Evt.pos c4 (Evt.bind e (Evt.bind e' (Evt.pos (by omega) (Evt.ret _)))))))), by simp; omega, by omega, by omega⟩
    exact ⟨out, p1, s1, Evt.neg c0 (Evt.neg c1 (Evt.neg c2 (Evt.neg c3 (Evt.neg c4 (Evt.ret _))))), by omega, by omega, by omega⟩
  | d + 1, out, p, seed, h0, h1, hl => by
    obtain ⟨x, p1, s1, e1, a1, b1, g1, g2⟩ := pick_some s p seed 9 hs h0 (by omega) (by omega)
    obtain ⟨r, p', sd, hr, q1, q2, q3⟩ := weights_loop s hs d (out ++ [wrap64 (x - 4)]) p1 s1 (by omega) (by omega) (by simp; omega)
    have hd : wrap64 (((d + 1 : Nat) : Int) - 1) = (d : Int) := by rw [w64 (by omega) (by omega)]; omega
    refine ⟨r, p', sd, Evt.step (fun k => ?_) hr, q1, by omega, by omega⟩
    simp only [spec_l1Cur_weights.l0]
    rw [if_pos (by omega), e1]; simp only [Option.bind_some]
    rw [hd]
    clear hd
    rw [if_pos (by omega)]
theorem weights_some (s : List Int) (p seed : Int) (hs : Bytes s) (h0 : 0 ≤ p) (h1 : p ≤ 800000) :
    ∃ r p' seed', Evt (fun k => spec_l1Cur_weights.f k s p seed) (r, p', seed') ∧ r.length ≤ 210 ∧ p ≤ p' ∧ p' ≤ p + 50 := by
  obtain ⟨x, p1, s1, e1, a1, b1, g1, g2⟩ := pick_some s p seed 5 hs h0 (by omega) (by omega)
  obtain ⟨r, p', sd, hr, q1, q2, q3⟩ := weights_loop s hs (1 + x).toNat [] p1 s1 (by omega) (by omega) (by simp; omega)
  refine ⟨r, p', sd, ?_, q1, by omega, by omega⟩
  unfold spec_l1Cur_weights.f
  refine Evt.bindp e1 ?_
  rw [Int.toNat_of_nonneg (by omega)] at hr
  have hw : wrap64 (1 + x) = 1 + x := w64 (by omega) (by omega)
  simp only [hw]
  exact hr
theorem word_some (s : List Int) (p seed : Int) (hs : Bytes s) (h0 : 0 ≤ p) (h1 : p ≤ 800000) :
    ∃ b c p' seed', spec_l1Cur_word.f s p seed = some (b, c, p', seed') ∧ p ≤ p' ∧ p' ≤ p + 6 := by
  obtain ⟨q, p1, s1, e1, g1, g2⟩ := one_some s p seed 12 hs h0 (by omega) (by omega)
  unfold spec_l1Cur_word.f
  rw [e1]; simp only [Option.bind_some]
  cases q with
  | true =>
    obtain ⟨y, p2, s2, e2, m2, g3, g4⟩ := among_some s p1 s1 [(-1), 1, 2, 16, 17, 4611686018427387904] hs (by omega) (by omega) (by simp) (by simp)
    obtain ⟨c, p3, s3, e3, g5, g6⟩ := one_some s p2 s2 2 hs (by omega) (by omega) (by omega)
    rw [if_pos rfl, e2]; simp only [Option.bind_some]; rw [e3]
    exact ⟨_, _, p3, s3, rfl, by omega, by omega⟩
  | false =>
    obtain ⟨y, p2, s2, e2, a2, b2, g3, g4⟩ := pick_some s p1 s1 7 hs (by omega) (by omega) (by omega)
    obtain ⟨c, p3, s3, e3, g5, g6⟩ := one_some s p2 s2 2 hs (by omega) (by omega) (by omega)
    rw [if_neg (by simp), e2]; simp only [Option.bind_some]; rw [e3]
    exact ⟨_, _, p3, s3, rfl, by omega, by omega⟩
theorem filtered_some (s : List Int) (hs : Bytes s) :
    ∃ b c l t p' seed', Evt (fun k => spec_l1Cur_filtered.f k s 0 0) (b, c, l, t, p', seed') ∧ l.length ≤ 210 ∧ Fit t ∧ 0 ≤ p' ∧ p' ≤ 5000 := by
  obtain ⟨x, p1, s1, e1, a1, b1, g1, g2⟩ := pick_some s 0 0 6 hs (by omega) (by omega) (by omega)
  obtain ⟨q, p2, s2, e2, g3, g4⟩ := one_some s p1 s1 2 hs (by omega) (by omega) (by omega)
  obtain ⟨l, p3, s3, e3, hl, g5, g6⟩ := weights_some s p2 s2 hs (by omega) (by omega)
  have hw1 : wrap64 (3 + x) = 3 + x := w64 (by omega) (by omega)
  have hw2 : wrap64 (3 + x - 1) = 2 + x := by clear hw1; rw [w64 (by omega) (by omega)]; omega
  have hp := pw_rng (s := 2 + x) (by omega) (by omega)
  have hw3 : wrap64 (shl .i64 1 (2 + x) - 1) = pw (2 + x) - 1 := by
    clear hw1 hw2
    rw [shlp (by omega) (by omega), w64 (by omega) (by omega)]
  have hm := pw_mono (show 2 + x ≤ 7 by omega)
  have h7 : pw 7 = 128 := rfl
  obtain ⟨t, p4, s4, e4, hf, g7, g8⟩ := signal_some s p3 s3 9 (pw (2 + x) - 1) hs (by omega) (by clear hw1 hw2 hw3; omega) (by omega) (by omega) (by clear hw1 hw2 hw3; omega) (by clear hw1 hw2 hw3; omega)
  obtain ⟨z, p5, s5, e5, g9, g10⟩ := one_some s p4 s4 8 hs (by omega) (by clear hw1 hw2 hw3; omega) (by omega)
  unfold spec_l1Cur_filtered.f
  cases z with
  | true =>
    obtain ⟨b, c, p6, s6, e6, g11, g12⟩ := word_some s p5 s5 hs (by clear hw1 hw2 hw3; omega) (by clear hw1 hw2 hw3; omega)
    refine ⟨b, c, l, t, p6, s6, Evt.bindp e1 (Evt.bindp e2 (Evt.bind e3 ?_)), hl, hf, by clear hw1 hw2 hw3; omega, by clear hw1 hw2 hw3; omega⟩
    simp only [hw1, hw2, hw3]
    exact Evt.pos (by clear hw1 hw2 hw3; omega) (Evt.bind e4 (Evt.bindp e5 (Evt.pos rfl (Evt.bindp e6 (Evt.ret _)))))
  | false =>
    refine ⟨3 + x, q, l, t, p5, s5, Evt.bindp e1 (Evt.bindp e2 (Evt.bind e3 ?_)), hl, hf, by clear hw1 hw2 hw3; omega, by clear hw1 hw2 hw3; omega⟩
    simp only [hw1, hw2, hw3]
    exact Evt.pos (by clear hw1 hw2 hw3; omega) (Evt.bind e4 (Evt.bindp e5 (Evt.neg (by simp) (Evt.ret _))))
theorem draw_filter (s : List Int) (hs : Bytes s) : ∃ b c l t sh m, Evt (fun k => spec_DrawFilterInWord.f k s) (b, c, l, t, sh, m) := by
  obtain ⟨b, c, l, t, p, sd, e, hl, hf, g1, g2⟩ := filtered_some s hs
  obtain ⟨x, p1, s1, e1, a1, b1, g3, g4⟩ := pick_some s p sd 4 hs g1 (by omega) (by omega)
  obtain ⟨y, p2, s2, e2, m2, g5, g6⟩ := among_some s p1 s1 [0, 1, 2, 0, 1, 2, 0, 1, 2, 3, (-1)] hs (by omega) (by omega) (by simp) (by simp)
  refine ⟨b, c, l, t, x, y, ?_⟩
  unfold spec_DrawFilterInWord.f
  refine Evt.bind e (Evt.bindp e1 (Evt.bindp (a := (y, p2, s2)) ?_ (Evt.ret _)))
  unfold spec_l1Cur_mode.f
  rw [e2]; rfl
theorem draw_bits (s : List Int) (hs : Bytes s) : ∃ l b c, Evt (fun k => spec_DrawBitsNeeded.f k s) (l, b, c) := by
  obtain ⟨l, p, sd, e, hl, g1, g2⟩ := weights_some s 0 0 hs (by omega) (by omega)
  obtain ⟨b, c, p1, s1, e1, g3, g4⟩ := word_some s p sd hs (by omega) (by omega)
  refine ⟨l, b, c, ?_⟩
  unfold spec_DrawBitsNeeded.f
  exact Evt.bind e (Evt.bindp e1 (Evt.ret _))

/-! ### plain laws -/
theorem fitG_id {b : Int} (c : Bool) (h : WordB b) {x : Int} (h0 : -(Hf b) ≤ x) (h1 : x ≤ Hf b - 1) : fitG b c x = x := by
  have hr := Hf_rng h
  unfold fitG
  split
  · rw [Int.emod_eq_of_lt (by omega) (by omega)]; omega
  · rw [if_neg (by omega), if_neg (by omega)]
theorem fitG_add {b : Int} (h : WordB b) (x y : Int) : fitG b true (fitG b true x + fitG b true y) = fitG b true (x + y) := by
  have hr := Hf_rng h
  unfold fitG
  simp only [if_true]
  have h1 := Int.emod_add_mul_ediv (x + Hf b) (2 * Hf b)
  have h2 := Int.emod_add_mul_ediv (y + Hf b) (2 * Hf b)
  have e : (x + Hf b) % (2 * Hf b) - Hf b + ((y + Hf b) % (2 * Hf b) - Hf b) + Hf b = (x + y + Hf b) + 2 * Hf b * -((x + Hf b) / (2 * Hf b) + (y + Hf b) / (2 * Hf b)) := by
    rw [Int.mul_neg, Int.mul_add]; omega
  rw [e, Int.add_mul_emod_self_left]
theorem ft_wrap {b : Int} (h : WordB b) (l s : List Int) (m : Int) {n : Nat} (hn : n < s.length) : ∀ (k : Nat), k ≤ n + 1 → ft b true l s 0 m n k = fitG b true (cv l s n k)
  | 0, _ => by have hr := Hf_rng h; show (0 : Int) = fitG b true 0; rw [fitG_id true h (by omega) (by omega)]
  | k + 1, hk => by
    have e : cv l s n (k + 1) = cv l s n k + rd l k * rd s (n - k) := by show cv l s n k + rd l k * S s (n - k) = _; rw [S_in (by omega) (by omega)]
    rw [e, ← fitG_add h, ← ft_wrap h l s m hn k (by omega)]
    show fitG b true (ft b true l s 0 m n k + fitG b true (shG (rd l k * rd s (n - k)) 0 m)) = _
    rw [shG_zero]
theorem cv_min (l s : List Int) (n : Nat) : cv l s n (min l.length (n + 1)) = cv l s n l.length := by
  by_cases c : n + 1 ≤ l.length
  · rw [Nat.min_eq_right c, cv_cut l s c]
  · rw [Nat.min_eq_left (by omega)]
theorem fts_wrap {b : Int} (h : WordB b) (l s : List Int) (m : Int) {n : Nat} (hn : n < s.length) : fts b true l s 0 m n = fitG b true (cv l s n l.length) := by
  unfold fts
  rw [ft_wrap h l s m hn _ (by omega), cv_min]
theorem cv_between {H : Int} (hH : 2 ≤ H) (hH1 : H ≤ 32768) (l : List Int) {s : List Int} (hs : ∀ x ∈ s, -H ≤ x ∧ x ≤ H - 1) (n : Int) {k : Nat} (hk : k ≤ l.length) :
    loS H l l.length ≤ cv l s n k ∧ cv l s n k ≤ hiS H l l.length := by
  have hS : ∀ i, -H ≤ S s i ∧ S s i ≤ H - 1 := fun i => by
    unfold S; split
    · rename_i c; exact hs _ (rd_mem c.1 c.2)
    · omega
  have a : loS H l k ≤ cv l s n k := sm_le k (fun j _ => ((LU (x := rd l j) hH hH1).2.2.1 _ (hS (n - j)).1 (hS (n - j)).2).1)
  have b : cv l s n k ≤ hiS H l k := sm_le k (fun j _ => ((LU (x := rd l j) hH hH1).2.2.1 _ (hS (n - j)).1 (hS (n - j)).2).2)
  have m1 : ∀ d, loS H l (k + d) ≤ loS H l k := fun d => by
    induction d with
    | zero => exact Int.le_refl _
    | succ d ih => have := (LU (x := rd l ((k + d : Nat) : Int)) hH hH1).1; show loS H l (k + d) + Lw H (rd l ((k + d : Nat) : Int)) ≤ _; omega
  have m2 : ∀ d, hiS H l k ≤ hiS H l (k + d) := fun d => by
    induction d with
    | zero => exact Int.le_refl _
    | succ d ih => have := (LU (x := rd l ((k + d : Nat) : Int)) hH hH1).2.1; show _ ≤ hiS H l (k + d) + Up H (rd l ((k + d : Nat) : Int)); omega
  have := m1 (l.length - k)
  have := m2 (l.length - k)
  rw [show k + (l.length - k) = l.length by omega] at *
  omega
theorem prod_between {H : Int} (hH : 2 ≤ H) (hH1 : H ≤ 32768) (l : List Int) {y : Int} (h0 : -H ≤ y) (h1 : y ≤ H - 1) {k : Nat} (hk : k < l.length) :
    loS H l l.length ≤ rd l k * y ∧ rd l k * y ≤ hiS H l l.length := by
  have e := (LU (x := rd l k) hH hH1).2.2.1 y h0 h1
  have m0 : ∀ n, loS H l n ≤ 0 ∧ 0 ≤ hiS H l n := fun n => by
    induction n with
    | zero => exact ⟨Int.le_refl _, Int.le_refl _⟩
    | succ n ih => have := LU (x := rd l n) hH hH1; exact ⟨by show loS H l n + Lw H (rd l n) ≤ 0; omega, by show 0 ≤ hiS H l n + Up H (rd l n); omega⟩
  have m1 : ∀ d, loS H l (k + 1 + d) ≤ Lw H (rd l k) ∧ Up H (rd l k) ≤ hiS H l (k + 1 + d) := fun d => by
    induction d with
    | zero => have := m0 k; exact ⟨by show loS H l k + Lw H (rd l k) ≤ _; omega, by show _ ≤ hiS H l k + Up H (rd l k); omega⟩
    | succ d ih =>
      have := LU (x := rd l ((k + 1 + d : Nat) : Int)) hH hH1
      exact ⟨by show loS H l (k + 1 + d) + Lw H (rd l ((k + 1 + d : Nat) : Int)) ≤ _; omega, by show _ ≤ hiS H l (k + 1 + d) + Up H (rd l ((k + 1 + d : Nat) : Int)); omega⟩
  have := m1 (l.length - (k + 1))
  rw [show k + 1 + (l.length - (k + 1)) = l.length by omega] at this
  omega
theorem ft_exact {b : Int} (c : Bool) (h : WordB b) (l : List Int) {s : List Int} (hs : ∀ x ∈ s, -(Hf b) ≤ x ∧ x ≤ Hf b - 1) (m : Int) {n : Nat} (hn : n < s.length)
    (h0 : -(Hf b) ≤ loS (Hf b) l l.length) (h1 : hiS (Hf b) l l.length ≤ Hf b - 1) : ∀ (k : Nat), k ≤ n + 1 → k ≤ l.length → ft b c l s 0 m n k = cv l s n k
  | 0, _, _ => rfl
  | k + 1, hk, hk' => by
    have hr := Hf_rng h
    have e : cv l s n (k + 1) = cv l s n k + rd l k * rd s (n - k) := by show cv l s n k + rd l k * S s (n - k) = _; rw [S_in (by omega) (by omega)]
    have b1 := cv_between hr.1 hr.2 l hs (n : Int) (k := k + 1) hk'
    have hy := hs _ (rd_mem (l := s) (i := (n : Int) - k) (by omega) (by omega))
    have b2 := prod_between hr.1 hr.2 l hy.1 hy.2 (k := k) (by omega)
    show fitG b c (ft b c l s 0 m n k + fitG b c (shG (rd l k * rd s (n - k)) 0 m)) = _
    rw [shG_zero, ft_exact c h l hs m hn h0 h1 k (by omega) (by omega), fitG_id c h (x := rd l k * rd s (n - k)) (by omega) (by omega), ← e, fitG_id c h (by omega) (by omega)]
end Go.Proofs.Ytjbpflfihdabhaa.PureF
