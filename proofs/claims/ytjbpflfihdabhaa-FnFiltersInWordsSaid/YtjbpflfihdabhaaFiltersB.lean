/- What the filters in words come to, and the bits that are enough, in plain Lean. No condition. -/
import Derived.Test.YtjbpflfihdabhaaFiltersA
namespace Go.Proofs.Ytjbpflfihdabhaa.PureF
open Go.RowKit Go.Proofs.Ytjbpflfihdabhaa.PFnFiltersInWords Go.Proofs.YtjbpflfihdabhaaW.PrintWords Go.Proofs.YtjbpflfihdabhaaW.PrintLast Go.Proofs.YtjbpflfihdabhaaW.PrintMore Go.Proofs.Ytjbpflfihdabhaa.Base
set_option linter.unusedVariables false
set_option linter.unusedSimpArgs false

theorem mul_bd {a b A B : Int} (h1 : -A ≤ a) (h2 : a ≤ A) (h3 : -B ≤ b) (h4 : b ≤ B) : -(A * B) ≤ a * b ∧ a * b ≤ A * B := by
  have e1 : (a * b).natAbs ≤ A.natAbs * B.natAbs := by
    rw [Int.natAbs_mul]; exact Nat.mul_le_mul (by omega) (by omega)
  have e2 : ((A.natAbs * B.natAbs : Nat) : Int) = A * B := by
    rw [Int.natCast_mul, Int.natAbs_of_nonneg (by omega), Int.natAbs_of_nonneg (by omega)]
  omega

/-! ### sums -/
/-- f 0 + .. + f (n - 1) -/
def sm (f : Nat → Int) : Nat → Int
  | 0 => 0
  | n + 1 => sm f n + f n
theorem sm_bd {f : Nat → Int} {B : Int} : ∀ (n : Nat), (∀ k, k < n → -B ≤ f k ∧ f k ≤ B) → -(n * B) ≤ sm f n ∧ sm f n ≤ n * B
  | 0, _ => by simp [sm]
  | n + 1, h => by
    have ih := sm_bd n (fun k hk => h k (by omega))
    have := h n (by omega)
    have e : ((n + 1 : Nat) : Int) * B = n * B + B := by rw [Int.natCast_add, Int.add_mul]; simp
    rw [e]; simp only [sm]; omega
theorem sm_le {f g : Nat → Int} : ∀ (n : Nat), (∀ k, k < n → f k ≤ g k) → sm f n ≤ sm g n
  | 0, _ => by simp [sm]
  | n + 1, h => by
    have ih := sm_le n (fun k hk => h k (by omega))
    have := h n (by omega)
    simp only [sm]; omega
theorem sm_congr {f g : Nat → Int} : ∀ (n : Nat), (∀ k, k < n → f k = g k) → sm f n = sm g n
  | 0, _ => rfl
  | n + 1, h => by simp only [sm]; rw [sm_congr n (fun k hk => h k (by omega)), h n (by omega)]
theorem sm_more {f : Nat → Int} {m : Nat} : ∀ (d : Nat), (∀ k, m ≤ k → f k = 0) → sm f (m + d) = sm f m
  | 0, _ => rfl
  | d + 1, h => by
    show sm f (m + d) + f (m + d) = _
    rw [sm_more d h, h _ (by omega)]; omega

/-! ### answers -/
/-- a sample, or 0 where there is none -/
def S (s : List Int) (i : Int) : Int := if 0 ≤ i ∧ i < s.length then rd s i else 0
theorem S_in {s : List Int} {i : Int} (h0 : 0 ≤ i) (h1 : i < s.length) : S s i = rd s i := if_pos ⟨h0, h1⟩
theorem S_out {s : List Int} {i : Int} (h : ¬ (0 ≤ i ∧ i < s.length)) : S s i = 0 := if_neg h
theorem S_bd {s : List Int} {B : Int} (hB : 0 ≤ B) (h : ∀ x ∈ s, -B ≤ x ∧ x ≤ B) (i : Int) : -B ≤ S s i ∧ S s i ≤ B := by
  unfold S; split
  · rename_i c; exact h _ (rd_mem c.1 c.2)
  · omega
/-- the sum of the products of the first m weights at the place n -/
def cv (h s : List Int) (n : Int) (m : Nat) : Int := sm (fun k => rd h k * S s (n - k)) m
theorem cv_bd {h s : List Int} (hh : ∀ x ∈ h, -1000 ≤ x ∧ x ≤ 1000) (hs : ∀ x ∈ s, -100000 ≤ x ∧ x ≤ 100000) (n : Int) {m : Nat} (hm : m ≤ h.length) (h9 : m ≤ 64) :
    -6400000000 ≤ cv h s n m ∧ cv h s n m ≤ 6400000000 := by
  have := sm_bd (f := fun k => rd h k * S s (n - k)) (B := 100000000) m (fun k hk => by
    have a := hh _ (rd_mem (l := h) (i := k) (by omega) (by omega))
    have b := S_bd (by omega) hs (n - k)
    have := mul_bd a.1 a.2 b.1 b.2
    omega)
  unfold cv; omega
/-- what the list holds when the weights before k are done, and so many samples of the weight k -/
def ansL (h s : List Int) (k i : Nat) : List Int :=
  (List.range (h.length + s.length - 1)).map (fun j : Nat => cv h s j k + if k ≤ j ∧ j < k + i then rd h k * rd s ((j : Int) - k) else 0)
theorem rd_map {n : Nat} (f : Nat → Int) {j : Nat} (h : j < n) : rd ((List.range n).map f) j = f j := by
  rw [rd_lt (by simpa using h)]; simp
theorem ansL_len (h s : List Int) (k i : Nat) : (ansL h s k i).length = h.length + s.length - 1 := by simp [ansL]
theorem ansL_set (h s : List Int) {k i : Nat} (hk : k < h.length) (hi : i < s.length) :
    (ansL h s k i).set (i + k) (rd (ansL h s k i) ((i + k : Nat) : Int) + rd h k * rd s i) = ansL h s k (i + 1) := by
  have hj : i + k < h.length + s.length - 1 := by omega
  have e : rd (ansL h s k i) ((i + k : Nat) : Int) = cv h s ((i + k : Nat) : Int) k := by
    unfold ansL; rw [rd_map _ hj, if_neg (by omega)]; omega
  rw [e]
  apply List.ext_getElem
  · simp [ansL_len]
  · intro j h1 h2
    simp only [ansL_len, List.length_set] at h1 h2
    rw [List.getElem_set]
    by_cases c : i + k = j
    · subst c
      rw [if_pos rfl]
      simp only [ansL, List.getElem_map, List.getElem_range]
      rw [if_pos (by omega)]
      have : ((i + k : Nat) : Int) - k = i := by omega
      rw [this]
    · rw [if_neg c]
      simp only [ansL, List.getElem_map, List.getElem_range]
      by_cases d : k ≤ j ∧ j < k + i
      · rw [if_pos d, if_pos (by omega)]
      · rw [if_neg d, if_neg (by omega)]
theorem ansL_next (h s : List Int) (k : Nat) : ansL h s k s.length = ansL h s (k + 1) 0 := by
  unfold ansL
  apply List.map_congr_left
  intro j _
  rw [if_neg (c := k + 1 ≤ j ∧ j < k + 1 + 0) (by omega)]
  show _ = (cv h s j k + rd h k * S s (j - k)) + 0
  by_cases d : k ≤ j ∧ j < k + s.length
  · rw [if_pos d, S_in (by omega) (by omega)]; omega
  · rw [if_neg d, S_out (by omega)]; omega
theorem ansL_start (h s : List Int) : ansL h s 0 0 = List.replicate (h.length + s.length - 1) 0 := by
  unfold ansL
  apply List.ext_getElem
  · simp
  · intro j h1 h2
    simp only [List.getElem_map, List.getElem_range, List.getElem_replicate]
    rw [if_neg (by omega)]; rfl
/-- the answer -/
def ans (h s : List Int) : List Int := (List.range (h.length + s.length - 1)).map (fun j : Nat => cv h s j h.length)
theorem ans_in (h s : List Int) (hh : ∀ x ∈ h, -1000 ≤ x ∧ x ≤ 1000) (hs : ∀ x ∈ s, -100000 ≤ x ∧ x ≤ 100000) (hl : h.length ≤ 64) (hn : s.length ≤ 1000) (k : Nat) (hk : k < h.length) :
    ∀ (r : List Int), Evt (fun q => impl_answer.l0 q s (ansL h s k s.length) h h.length (k + 1 : Nat)) r →
    ∀ (d i : Nat), i + d = s.length → Evt (fun q => impl_answer.l1 q s (ansL h s k i) k (rd h k) h h.length k s s.length i) r
  | r, ho, 0, i, hd => by
    have : i = s.length := by omega
    subst this
    refine Evt.step (fun q => ?_) ho
    simp only [impl_answer.l1]
    rw [if_neg (by omega), w64 (by omega) (by omega)]; rfl
  | r, ho, d + 1, i, hd => by
    have ih := ans_in h s hh hs hl hn k hk r ho d (i + 1) (by omega)
    refine Evt.step (fun q => ?_) ih
    have a := hh _ (rd_mem (l := h) (i := k) (by omega) (by omega))
    have b := hs _ (rd_mem (l := s) (i := i) (by omega) (by omega))
    have ab := mul_bd a.1 a.2 b.1 b.2
    have c := cv_bd hh hs ((i + k : Nat) : Int) (m := k) (by omega) (by omega)
    have hj : i + k < h.length + s.length - 1 := by omega
    have e : rd (ansL h s k i) ((i + k : Nat) : Int) = cv h s ((i + k : Nat) : Int) k := by
      unfold ansL; rw [rd_map _ hj, if_neg (by omega)]; omega
    have hL := ansL_len h s k i
    have hset := ansL_set h s hk (i := i) (by omega)
    have ew : wrap64 ((i : Int) + k) = ((i + k : Nat) : Int) := by rw [w64 (by omega) (by omega)]; omega
    have e1 : wrap64 (rd h k * rd s i) = rd h k * rd s i := by clear e hset; generalize rd h k * rd s i = p at *; exact w64 (by omega) (by omega)
    have e2 : wrap64 (rd (ansL h s k i) ((i + k : Nat) : Int) + rd h k * rd s i) = rd (ansL h s k i) ((i + k : Nat) : Int) + rd h k * rd s i := by
      rw [e]; clear e hset e1; generalize rd h k * rd s i = p at *; exact w64 (by omega) (by omega)
    have e3 : wrap64 ((i : Int) + 1) = ((i + 1 : Nat) : Int) := by clear e hset e1 e2 ab; rw [w64 (by omega) (by omega)]; rfl
    clear e ab
    simp only [impl_answer.l1]
    rw [ew, e1, e2, e3, Int.toNat_natCast, hset]
    clear e1 e2 hset ew e3
    rw [if_pos (by omega), if_pos (by omega), if_pos (by omega), if_pos (by omega), if_pos (by omega)]
theorem ans_out (h s : List Int) (hh : ∀ x ∈ h, -1000 ≤ x ∧ x ≤ 1000) (hs : ∀ x ∈ s, -100000 ≤ x ∧ x ≤ 100000) (hl : h.length ≤ 64) (hn : s.length ≤ 1000) :
    ∀ (d k : Nat), k + d = h.length → Evt (fun q => impl_answer.l0 q s (ansL h s k 0) h h.length k) (ans h s)
  | 0, k, hd => by
    have : k = h.length := by omega
    subst this
    refine Evt.step (h := fun _ => some (ans h s)) (fun q => ?_) (Evt.ret _)
    simp only [impl_answer.l0]
    rw [if_neg (by omega)]
    congr 1
    unfold ansL ans
    apply List.map_congr_left
    intro j _
    rw [if_neg (by omega)]; omega
  | d + 1, k, hd => by
    have ih := ans_out h s hh hs hl hn d (k + 1) (by omega)
    rw [← ansL_next] at ih
    refine Evt.step (fun q => ?_) (ans_in h s hh hs hl hn k (by omega) _ ih s.length 0 (by omega))
    simp only [impl_answer.l0]
    rw [if_pos (by omega), if_pos (by omega), if_pos (by omega)]; rfl
theorem answer_val (h s : List Int) (hh : ∀ x ∈ h, -1000 ≤ x ∧ x ≤ 1000) (hs : ∀ x ∈ s, -100000 ≤ x ∧ x ≤ 100000) (h1 : 1 ≤ h.length) (hl : h.length ≤ 64) (hn : s.length ≤ 1000) :
    Evt (fun q => impl_answer.f q h s) (if s.length = 0 then [] else ans h s) := by
  unfold impl_answer.f
  by_cases c : s.length = 0
  · rw [if_pos c]; exact Evt.pos (by omega) (Evt.ret _)
  · rw [if_neg c]
    refine Evt.neg (by omega) ?_
    have ew : wrap64 (wrap64 ((h.length : Int) + s.length) - 1) = ((h.length + s.length - 1 : Nat) : Int) := by
      rw [w64 (x := (h.length : Int) + s.length) (by omega) (by omega), w64 (by omega) (by omega)]; omega
    rw [ew, Int.toNat_natCast]
    refine Evt.pos (by omega) (Evt.pos (by omega) ?_)
    rw [← ansL_start]
    exact ans_out h s hh hs hl hn h.length 0 (by omega)
theorem ans_take (h s : List Int) (h1 : 1 ≤ h.length) : ((if s.length = 0 then [] else ans h s).take s.length) = (List.range s.length).map (fun j : Nat => cv h s j h.length) := by
  by_cases c : s.length = 0
  · rw [if_pos c]; simp [c]
  · rw [if_neg c]; unfold ans
    rw [← List.map_take, List.take_range, Nat.min_eq_left (by omega)]
end Go.Proofs.Ytjbpflfihdabhaa.PureF
