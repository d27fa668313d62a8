/- What the filters in words come to, in plain Lean. No condition. -/
import Derived.Test.YtjbpflfihdabhaaFiltersB
namespace Go.Proofs.Ytjbpflfihdabhaa.PureF
open Go.RowKit Go.Proofs.Ytjbpflfihdabhaa.PFnFiltersInWords Go.Proofs.YtjbpflfihdabhaaW.PrintWords Go.Proofs.YtjbpflfihdabhaaW.PrintLast Go.Proofs.YtjbpflfihdabhaaW.PrintMore Go.Proofs.Ytjbpflfihdabhaa.Base
set_option linter.unusedVariables false
set_option linter.unusedSimpArgs false

theorem div_bd {x B p : Int} (hp : 1 ≤ p) (hB : 0 ≤ B) (h0 : -B ≤ x) (h1 : x ≤ B) : -B ≤ x / p ∧ x / p ≤ B := by
  refine ⟨(Int.le_ediv_iff_mul_le (by omega)).mpr ?_, ?_⟩
  · have : B * 1 ≤ B * p := Int.mul_le_mul_of_nonneg_left hp hB
    rw [Int.neg_mul]; omega
  · rcases Int.le_total 0 x with c | c
    · exact Int.le_trans (Int.ediv_le_self _ c) h1
    · have := Int.ediv_nonpos_of_nonpos_of_neg c (by omega : 0 < p); omega
theorem shG_bd {x s m B : Int} (h0 : 0 ≤ s) (h1 : s ≤ 20) (hB : 0 ≤ B) (hx0 : -B ≤ x) (hx1 : x ≤ B) : -(B + 1048576) ≤ shG x s m ∧ shG x s m ≤ B + 1048576 := by
  have hp := pw_rng h0 h1
  unfold shG
  split
  · rename_i c
    have hq := pw_rng (s := s - 1) (by omega) (by omega)
    exact div_bd hp.1 (by omega) (by omega) (by omega)
  · split
    · have := div_bd (x := -x) hp.1 hB (by omega) (by omega); omega
    · have := div_bd (x := x) hp.1 hB (by omega) (by omega); omega
theorem shG_zero (x m : Int) : shG x 0 m = x := by
  unfold shG pw
  have e : (2 : Int) ^ (0 : Int).toNat = 1 := rfl
  rw [if_neg (by omega), e]
  split <;> simp

/-! ### filters in words -/
/-- what is asked, told one by one -/
structure AskF (b : Int) (l s : List Int) (sh m : Int) : Prop where
  w : WordB b
  len1 : 1 ≤ l.length
  len9 : l.length ≤ 9
  wl : ∀ x ∈ l, -1000 ≤ x ∧ x ≤ 1000
  slen : s.length ≤ 64
  ws : ∀ x ∈ s, -100000 ≤ x ∧ x ≤ 100000
  s0 : 0 ≤ sh
  s20 : sh ≤ 20
  hl : ∀ x ∈ l, -(Hf b) ≤ x ∧ x ≤ Hf b - 1
  hs : ∀ x ∈ s, -(Hf b) ≤ x ∧ x ≤ Hf b - 1
theorem wei_iff {l : List Int} : wei l = true ↔ (1 ≤ l.length ∧ l.length ≤ 9) ∧ ∀ x ∈ l, -1000 ≤ x ∧ x ≤ 1000 := by
  unfold wei; rw [Bool.and_eq_true, inB_iff, List.all_eq_true]
  constructor
  · rintro ⟨a, b⟩; exact ⟨by omega, fun x hx => inB_iff.mp (b x hx)⟩
  · rintro ⟨a, b⟩; exact ⟨by omega, fun x hx => inB_iff.mpr (b x hx)⟩
theorem ask_iff {b : Int} {l s : List Int} {sh m : Int} (h : askB b l s sh m = true) : AskF b l s sh m := by
  unfold askB at h
  simp only [Bool.and_eq_true] at h
  obtain ⟨⟨⟨⟨⟨h1, h2⟩, h3⟩, h4⟩, h5⟩, h6⟩ := h
  have g2 := wei_iff.mp h2
  have g3 := sig_iff.mp h3
  unfold shiB at h4
  rw [Bool.and_eq_true, inB_iff, inB_iff] at h4
  exact ⟨wordB_iff.mp h1, g2.1.1, g2.1.2, g2.2, g3.1, g3.2, h4.1.1, h4.1.2, fun x hx => inB_iff.mp (List.all_eq_true.mp h5 x hx), fun x hx => inB_iff.mp (List.all_eq_true.mp h6 x hx)⟩
/-- the sum that is made in a word, k weights long -/
def ft (b : Int) (c : Bool) (l s : List Int) (sh m n : Int) : Nat → Int
  | 0 => 0
  | k + 1 => fitG b c (ft b c l s sh m n k + fitG b c (shG (rd l k * rd s (n - k)) sh m))
theorem ft_rng {b : Int} (c : Bool) (h : WordB b) (l s : List Int) (sh m n : Int) : ∀ k, -32768 ≤ ft b c l s sh m n k ∧ ft b c l s sh m n k ≤ 32768
  | 0 => by simp [ft]
  | k + 1 => by
    have hr := Hf_rng h
    have := fitG_rng c (ft b c l s sh m n k + fitG b c (shG (rd l k * rd s (n - k)) sh m)) h
    simp only [ft]; omega
theorem ft_has {b : Int} (c : Bool) (h : WordB b) (l s : List Int) (sh m n : Int) : ∀ k, -(Hf b) ≤ ft b c l s sh m n k ∧ ft b c l s sh m n k ≤ Hf b - 1
  | 0 => by have hr := Hf_rng h; simp [ft]; omega
  | k + 1 => fitG_rng c _ h
/-- all of them -/
def fts (b : Int) (c : Bool) (l s : List Int) (sh m : Int) (n : Nat) : Int := ft b c l s sh m n (min l.length (n + 1))
theorem range_snoc {α : Type} (f : Nat → α) (n : Nat) : (List.range n).map f ++ [f n] = (List.range (n + 1)).map f := by rw [List.range_succ, List.map_append]; rfl
theorem impl_in {b : Int} (c : Bool) {l s : List Int} {sh m : Int} (A : AskF b l s sh m) (n : Nat) (hn : n < s.length) (r : List Int × Bool)
    (ho : Evt (fun q => impl_FilterInWord.l0 q l s sh m ((List.range (n + 1)).map (fts b c l s sh m)) s.length (n + 1 : Nat) b c) r) :
    ∀ (d k : Nat), k + d = min l.length (n + 1) → Evt (fun q => impl_FilterInWord.l1 q l s sh m ((List.range n).map (fts b c l s sh m)) n (ft b c l s sh m n k) k s.length n b c) r
  | 0, k, hd => by
    have hs64 := A.slen
    have en : wrap64 ((n : Int) + 1) = ((n + 1 : Nat) : Int) := by rw [w64 (by omega) (by omega)]; rfl
    have hj : Evt (fun q => impl_FilterInWord.j2 q l s sh m ((List.range n).map (fts b c l s sh m)) n (ft b c l s sh m n k) k s.length n false b c) r := by
      refine Evt.step (fun q => ?_) ho
      simp only [impl_FilterInWord.j2]
      rw [if_neg (by simp), if_pos (by simp; omega), en, show ft b c l s sh m n k = fts b c l s sh m n by unfold fts; rw [← hd]; rfl, range_snoc]
    clear en
    refine Evt.step (fun q => ?_) hj
    simp only [impl_FilterInWord.l1]
    by_cases c1 : k < l.length
    · rw [if_pos (by omega), decide_eq_false (by omega)]
    · rw [if_neg (by omega)]
  | d + 1, k, hd => by
    have hs64 := A.slen
    have ih := impl_in c A n hn r ho d (k + 1) (by omega)
    have a := A.wl _ (rd_mem (l := l) (i := k) (by omega) (by omega))
    have b' := A.ws _ (rd_mem (l := s) (i := (n : Int) - k) (by omega) (by omega))
    have ab := mul_bd a.1 a.2 b'.1 b'.2
    have hf := ft_rng c A.w l s sh m n k
    refine Evt.step (fun q => by simp only [impl_FilterInWord.l1]; rw [if_pos (by omega), decide_eq_true (by omega)]) ?_
    have en : wrap64 ((n : Int) - k) = (n : Int) - k := by clear ab; rw [w64 (by omega) (by omega)]
    refine Evt.step (fun q => by simp only [impl_FilterInWord.j2]; rw [en, if_pos trivial, if_pos (by clear en; omega), if_pos (by clear en; omega), if_pos (by clear en; omega), if_pos (by clear en; omega)]) ?_
    clear en
    have ex : ∀ p : Int, -(1000 * 100000) ≤ p → p ≤ 1000 * 100000 → wrap64 p = p := fun p h1 h2 => w64 (by omega) (by omega)
    rw [ex _ ab.1 ab.2]
    clear ex
    have hg := shG_bd (m := m) A.s0 A.s20 (by omega) ab.1 ab.2
    refine Evt.bind (shifted_val A.s0 A.s20 (by omega) (by omega)) ?_
    refine Evt.bindp (fit_val c A.w (by omega) (by omega)) ?_
    have hr := Hf_rng A.w
    have hq := fitG_rng c (shG (rd l k * rd s (n - k)) sh m) A.w
    have e1 : wrap64 (ft b c l s sh m n k + fitG b c (shG (rd l k * rd s (n - k)) sh m)) = ft b c l s sh m n k + fitG b c (shG (rd l k * rd s (n - k)) sh m) := w64 (by omega) (by omega)
    have e2 : wrap64 ((k : Int) + 1) = ((k + 1 : Nat) : Int) := by clear e1; rw [w64 (by omega) (by omega)]; rfl
    rw [e1, e2]
    clear e1 e2
    exact Evt.bindp (fit_val c A.w (by omega) (by omega)) ih
theorem impl_out {b : Int} (c : Bool) {l s : List Int} {sh m : Int} (A : AskF b l s sh m) :
    ∀ (d n : Nat), n + d = s.length → Evt (fun q => impl_FilterInWord.l0 q l s sh m ((List.range n).map (fts b c l s sh m)) s.length n b c) (told ((List.range s.length).map (fts b c l s sh m)))
  | 0, n, hd => by
    have : n = s.length := by omega
    subst this
    refine Evt.step (h := fun _ => some (told ((List.range s.length).map (fts b c l s sh m)))) (fun q => ?_) (Evt.ret _)
    simp only [impl_FilterInWord.l0]
    rw [if_neg (by omega)]
    try (rw [told_val]; rfl)
  | d + 1, n, hd => by
    have ih := impl_out c A d (n + 1) (by omega)
    refine Evt.step (fun q => ?_) (impl_in c A n (by omega) _ ih (min l.length (n + 1)) 0 (by omega))
    simp only [impl_FilterInWord.l0]
    rw [if_pos (by omega)]; rfl
theorem spec_in {b : Int} (c : Bool) {l s : List Int} {sh m : Int} (A : AskF b l s sh m) (n : Nat) (hn : n < s.length) (r : List Int × Bool)
    (ho : Evt (fun q => spec_FilterInWord.l0 q l s sh m ((List.range (n + 1)).map (fts b c l s sh m)) s.length (n + 1 : Nat) b c) r) :
    ∀ (d k : Nat), k + d = min l.length (n + 1) → Evt (fun q => spec_FilterInWord.l1 q l s sh m ((List.range n).map (fts b c l s sh m)) n (ft b c l s sh m n k) k s.length n b c) r
  | 0, k, hd => by
    have hs64 := A.slen
    have en : wrap64 ((n : Int) + 1) = ((n + 1 : Nat) : Int) := by rw [w64 (by omega) (by omega)]; rfl
    have hj : Evt (fun q => spec_FilterInWord.j2 q l s sh m ((List.range n).map (fts b c l s sh m)) n (ft b c l s sh m n k) k s.length n false b c) r := by
      refine Evt.step (fun q => ?_) ho
      simp only [spec_FilterInWord.j2]
      rw [if_neg (by simp), if_pos (by simp; omega), en, show ft b c l s sh m n k = fts b c l s sh m n by unfold fts; rw [← hd]; rfl, range_snoc]
    clear en
    refine Evt.step (fun q => ?_) hj
    simp only [spec_FilterInWord.l1]
    by_cases c1 : k < l.length
    · rw [if_pos (by omega), decide_eq_false (by omega)]
    · rw [if_neg (by omega)]
  | d + 1, k, hd => by
    have hs64 := A.slen
    have ih := spec_in c A n hn r ho d (k + 1) (by omega)
    have a := A.wl _ (rd_mem (l := l) (i := k) (by omega) (by omega))
    have b' := A.ws _ (rd_mem (l := s) (i := (n : Int) - k) (by omega) (by omega))
    have ab := mul_bd a.1 a.2 b'.1 b'.2
    have hf := ft_rng c A.w l s sh m n k
    refine Evt.step (fun q => by simp only [spec_FilterInWord.l1]; rw [if_pos (by omega), decide_eq_true (by omega)]) ?_
    have en : wrap64 ((n : Int) - k) = (n : Int) - k := by clear ab; rw [w64 (by omega) (by omega)]
    refine Evt.step (fun q => by simp only [spec_FilterInWord.j2]; rw [en, if_pos trivial, if_pos (by clear en; omega), if_pos (by clear en; omega), if_pos (by clear en; omega), if_pos (by clear en; omega)]) ?_
    clear en
    have ex : ∀ p : Int, -(1000 * 100000) ≤ p → p ≤ 1000 * 100000 → wrap64 p = p := fun p h1 h2 => w64 (by omega) (by omega)
    rw [ex _ ab.1 ab.2]
    clear ex
    have hg := shG_bd (m := m) A.s0 A.s20 (by omega) ab.1 ab.2
    refine Evt.bind (wdShift_val A.s0 A.s20 (by omega) (by omega)) ?_
    refine Evt.bindp (wdFit_val c A.w (by omega) (by omega)) ?_
    have hr := Hf_rng A.w
    have hq := fitG_rng c (shG (rd l k * rd s (n - k)) sh m) A.w
    have e1 : wrap64 (ft b c l s sh m n k + fitG b c (shG (rd l k * rd s (n - k)) sh m)) = ft b c l s sh m n k + fitG b c (shG (rd l k * rd s (n - k)) sh m) := w64 (by omega) (by omega)
    have e2 : wrap64 ((k : Int) + 1) = ((k + 1 : Nat) : Int) := by clear e1; rw [w64 (by omega) (by omega)]; rfl
    rw [e1, e2]
    clear e1 e2
    exact Evt.bindp (wdFit_val c A.w (by omega) (by omega)) ih
theorem spec_out {b : Int} (c : Bool) {l s : List Int} {sh m : Int} (A : AskF b l s sh m) :
    ∀ (d n : Nat), n + d = s.length → Evt (fun q => spec_FilterInWord.l0 q l s sh m ((List.range n).map (fts b c l s sh m)) s.length n b c) ((List.range s.length).map (fts b c l s sh m), true)
  | 0, n, hd => by
    have : n = s.length := by omega
    subst this
    refine Evt.step (h := fun _ => some ((List.range s.length).map (fts b c l s sh m), true)) (fun q => ?_) (Evt.ret _)
    simp only [spec_FilterInWord.l0]
    rw [if_neg (by omega)]
    try (rw [told_val]; rfl)
  | d + 1, n, hd => by
    have ih := spec_out c A d (n + 1) (by omega)
    refine Evt.step (fun q => ?_) (spec_in c A n (by omega) _ ih (min l.length (n + 1)) 0 (by omega))
    simp only [spec_FilterInWord.l0]
    rw [if_pos (by omega)]; rfl
theorem fts_sig {b : Int} (c : Bool) {l s : List Int} {sh m : Int} (A : AskF b l s sh m) : sig ((List.range s.length).map (fts b c l s sh m)) = true := by
  rw [sig_iff]
  have := A.slen
  refine ⟨by simpa using this, fun x hx => ?_⟩
  obtain ⟨n, _, rfl⟩ := List.mem_map.mp hx
  have := ft_rng c A.w l s sh m n (min l.length (n + 1))
  unfold fts; omega
def inW (b : Int) (c : Bool) (l s : List Int) (sh m : Int) : List Int × Bool := if askB b l s sh m = true then ((List.range s.length).map (fts b c l s sh m), true) else ([], false)
theorem implInW_val (b : Int) (c : Bool) (l s : List Int) (sh m : Int) : Evt (fun q => impl_FilterInWord.f q b c l s sh m) (inW b c l s sh m) := by
  unfold impl_FilterInWord.f inW
  refine Evt.bindp (inWord_val b c l s sh m) ?_
  by_cases h : askB b l s sh m = true
  · have A := ask_iff h
    rw [if_pos h]
    refine Evt.pos h ((impl_out c A s.length 0 (by omega)).eq ?_)
    unfold told; rw [if_pos (fts_sig c A)]
  · rw [if_neg h]; exact Evt.neg h (Evt.ret _)
theorem specInW_val (b : Int) (c : Bool) (l s : List Int) (sh m : Int) : Evt (fun q => spec_FilterInWord.f q b c l s sh m) (inW b c l s sh m) := by
  unfold spec_FilterInWord.f inW
  refine Evt.bind (weInWord_val b c l s sh m) ?_
  by_cases h : askB b l s sh m = true
  · rw [if_pos h]
    exact Evt.pos h (spec_out c (ask_iff h) s.length 0 (by omega))
  · rw [if_neg h]; exact Evt.neg h (Evt.ret _)

/-! ### filters that are fitted at the end -/
def fe (b : Int) (c : Bool) (l s : List Int) (sh m : Int) (n : Nat) : Int := fitG b c (shG (cv l s n l.length) sh m)
theorem fe_rng {b : Int} (c : Bool) (h : WordB b) (l s : List Int) (sh m : Int) (n : Nat) : -(Hf b) ≤ fe b c l s sh m n ∧ fe b c l s sh m n ≤ Hf b - 1 := fitG_rng c _ h
theorem fe_sig {b : Int} (c : Bool) {l s : List Int} {sh m : Int} (A : AskF b l s sh m) : sig ((List.range s.length).map (fe b c l s sh m)) = true := by
  rw [sig_iff]
  have := A.slen
  refine ⟨by simpa using this, fun x hx => ?_⟩
  obtain ⟨n, _, rfl⟩ := List.mem_map.mp hx
  have hr := Hf_rng A.w
  have := fe_rng c A.w l s sh m n
  omega
/-- fitted up to the place i -/
def feL (b : Int) (c : Bool) (l s : List Int) (sh m : Int) (i : Nat) : List Int := (List.range s.length).map (fun j : Nat => if j < i then fe b c l s sh m j else cv l s j l.length)
theorem feL_set (b : Int) (c : Bool) (l s : List Int) (sh m : Int) {i : Nat} (hi : i < s.length) : (feL b c l s sh m i).set i (fe b c l s sh m i) = feL b c l s sh m (i + 1) := by
  apply List.ext_getElem
  · simp [feL]
  · intro j h1 h2
    rw [List.getElem_set]
    simp only [feL, List.getElem_map, List.getElem_range]
    by_cases d : i = j
    · subst d; rw [if_pos rfl, if_pos (by omega)]
    · rw [if_neg d]
      by_cases e : j < i
      · rw [if_pos e, if_pos (by omega)]
      · rw [if_neg e, if_neg (by omega)]
theorem atEnd_loop {b : Int} (c : Bool) {l s : List Int} {sh m : Int} (A : AskF b l s sh m) :
    ∀ (d i : Nat), i + d = s.length → Evt (fun q => impl_FilterAtEnd.l0 q sh m (feL b c l s sh m i) s.length i b c) ((List.range s.length).map (fe b c l s sh m), true)
  | 0, i, hd => by
    have e : feL b c l s sh m i = (List.range s.length).map (fe b c l s sh m) := by
      unfold feL; apply List.map_congr_left; intro j hj; rw [if_pos (by have := List.mem_range.mp hj; omega)]
    refine Evt.step (h := fun _ => some ((List.range s.length).map (fe b c l s sh m), true)) (fun q => ?_) (Evt.ret _)
    simp only [impl_FilterAtEnd.l0]
    rw [if_neg (by omega), e, told_val]; simp only [Option.bind_some]
    unfold told; rw [if_pos (fe_sig c A)]
  | d + 1, i, hd => by
    have hs64 := A.slen
    have ih := atEnd_loop c A d (i + 1) (by omega)
    have hlen : ((feL b c l s sh m i).length : Int) = s.length := by simp [feL]
    have hrd : rd (feL b c l s sh m i) i = cv l s i l.length := by unfold feL; rw [rd_map _ (by omega), if_neg (by omega)]
    have hc := cv_bd A.wl A.ws (i : Int) (m := l.length) (Nat.le_refl _) (by have := A.len9; omega)
    have hg := shG_bd (m := m) A.s0 A.s20 (by omega) hc.1 hc.2
    refine Evt.step (fun q => by simp only [impl_FilterAtEnd.l0]; rw [if_pos (by omega), if_pos (by omega), if_pos (by omega), hrd]) ?_
    refine Evt.bind (shifted_val A.s0 A.s20 (by omega) (by omega)) (Evt.bindp (fit_val c A.w (by omega) (by omega)) ?_)
    have e2 : wrap64 ((i : Int) + 1) = ((i + 1 : Nat) : Int) := by rw [w64 (by omega) (by omega)]; rfl
    have e3 := feL_set b c l s sh m (i := i) (by omega)
    unfold fe at e3
    rw [Int.toNat_natCast, e3, e2]
    exact ih
def atE (b : Int) (c : Bool) (l s : List Int) (sh m : Int) : List Int × Bool := if askB b l s sh m = true then ((List.range s.length).map (fe b c l s sh m), true) else ([], false)
theorem implAtE_val (b : Int) (c : Bool) (l s : List Int) (sh m : Int) : Evt (fun q => impl_FilterAtEnd.f q b c l s sh m) (atE b c l s sh m) := by
  unfold impl_FilterAtEnd.f atE
  refine Evt.bindp (inWord_val b c l s sh m) ?_
  by_cases h : askB b l s sh m = true
  · have A := ask_iff h
    rw [if_pos h]
    have e := ans_take l s A.len1
    have hlen : s.length ≤ (if s.length = 0 then [] else ans l s).length := by
      have := congrArg List.length e
      simp only [List.length_take, List.length_map, List.length_range] at this
      omega
    refine Evt.pos h (Evt.bind (answer_val l s A.wl A.ws A.len1 (by have := A.len9; omega) (by have := A.slen; omega)) (Evt.pos (by omega) (Evt.pos (by omega) ?_)))
    rw [Int.toNat_natCast, e]
    refine Evt.bindp rfl ?_
    have e0 : (List.range s.length).map (fun j : Nat => cv l s j l.length) = feL b c l s sh m 0 := by
      unfold feL; apply List.map_congr_left; intro j _; rw [if_neg (by omega)]
    have e1 : ((feL b c l s sh m 0).length : Int) = s.length := by simp [feL]
    rw [e0, e1]
    exact atEnd_loop c A s.length 0 (by omega)
  · rw [if_neg h]; exact Evt.neg h (Evt.ret _)
theorem cv_cut (l s : List Int) {n k : Nat} (hk : n + 1 ≤ k) : cv l s n k = cv l s n (n + 1) := by
  obtain ⟨d, rfl⟩ : ∃ d, k = (n + 1) + d := ⟨k - (n + 1), by omega⟩
  exact sm_more d (fun j hj => by rw [S_out (by omega)]; simp)
theorem specEnd_in {b : Int} (c : Bool) {l s : List Int} {sh m : Int} (A : AskF b l s sh m) (n : Nat) (hn : n < s.length) (r : List Int × Bool)
    (ho : Evt (fun q => spec_FilterAtEnd.l0 q l s sh m ((List.range (n + 1)).map (fe b c l s sh m)) s.length (n + 1 : Nat) b c) r) :
    ∀ (d k : Nat), k + d = min l.length (n + 1) → Evt (fun q => spec_FilterAtEnd.l1 q l s sh m ((List.range n).map (fe b c l s sh m)) n (cv l s n k) k s.length n b c) r
  | 0, k, hd => by
    have hs64 := A.slen
    have h9 := A.len9
    have hc := cv_bd A.wl A.ws (n : Int) (m := k) (by omega) (by omega)
    have hg := shG_bd (m := m) A.s0 A.s20 (by omega) hc.1 hc.2
    have ek : cv l s n k = cv l s n l.length := by
      by_cases c1 : k < l.length
      · rw [cv_cut l s (show n + 1 ≤ l.length by omega), show k = n + 1 by omega]
      · rw [show k = l.length by omega]
    have hv : Evt (fun q => (spec_wdShift.f q (cv l s n k) sh m).bind fun t => ((spec_wdFit.f b c t).bind fun t1 => (if ((List.range n).map (fe b c l s sh m)).length < 17592186044416 then (spec_FilterAtEnd.l0 q l s sh m ((List.range n).map (fe b c l s sh m) ++ [t1]) s.length (wrap64 ((n : Int) + 1)) b c) else none))) r := by
      refine Evt.bind (wdShift_val A.s0 A.s20 (by omega) (by omega)) (Evt.bindp (wdFit_val c A.w (by omega) (by omega)) (Evt.pos (by simp; omega) ?_))
      have en : wrap64 ((n : Int) + 1) = ((n + 1 : Nat) : Int) := by rw [w64 (by omega) (by omega)]; rfl
      rw [en, ek, show fitG b c (shG (cv l s n l.length) sh m) = fe b c l s sh m n from rfl, range_snoc]
      exact ho
    refine Evt.step (fun q => ?_) hv
    simp only [spec_FilterAtEnd.l1]
    by_cases c1 : k < l.length
    · rw [if_pos (by omega), if_neg (by omega)]
    · rw [if_neg (by omega)]
  | d + 1, k, hd => by
    have hs64 := A.slen
    have h9 := A.len9
    have ih := specEnd_in c A n hn r ho d (k + 1) (by omega)
    refine Evt.step (fun q => ?_) ih
    have a := A.wl _ (rd_mem (l := l) (i := k) (by omega) (by omega))
    have b' := A.ws _ (rd_mem (l := s) (i := (n : Int) - k) (by omega) (by omega))
    have ab := mul_bd a.1 a.2 b'.1 b'.2
    have hc := cv_bd A.wl A.ws (n : Int) (m := k) (by omega) (by omega)
    have e0 : cv l s n (k + 1) = cv l s n k + rd l k * rd s (n - k) := by show cv l s n k + rd l k * S s (n - k) = _; rw [S_in (by omega) (by omega)]
    have e1 : wrap64 (rd l k * rd s ((n : Int) - k)) = rd l k * rd s ((n : Int) - k) := by clear e0; generalize rd l k * rd s ((n : Int) - k) = p at *; exact w64 (by omega) (by omega)
    have e2 : wrap64 (cv l s n k + rd l k * rd s ((n : Int) - k)) = cv l s n k + rd l k * rd s ((n : Int) - k) := by clear e0 e1; generalize rd l k * rd s ((n : Int) - k) = p at *; exact w64 (by omega) (by omega)
    have e3 : wrap64 ((k : Int) + 1) = ((k + 1 : Nat) : Int) := by clear e0 e1 e2 ab; rw [w64 (by omega) (by omega)]; rfl
    have e4 : wrap64 ((n : Int) - k) = (n : Int) - k := by clear e0 e1 e2 e3 ab; rw [w64 (by omega) (by omega)]
    simp only [spec_FilterAtEnd.l1]
    rw [e4, e1, e2, e3, ← e0]
    clear e0 e1 e2 e3 e4 ab
    rw [if_pos (by omega), if_pos (by omega), if_pos (by omega), if_pos (by omega), if_pos (by omega)]
theorem specEnd_out {b : Int} (c : Bool) {l s : List Int} {sh m : Int} (A : AskF b l s sh m) :
    ∀ (d n : Nat), n + d = s.length → Evt (fun q => spec_FilterAtEnd.l0 q l s sh m ((List.range n).map (fe b c l s sh m)) s.length n b c) ((List.range s.length).map (fe b c l s sh m), true)
  | 0, n, hd => by
    have : n = s.length := by omega
    subst this
    refine Evt.step (h := fun _ => some ((List.range s.length).map (fe b c l s sh m), true)) (fun q => ?_) (Evt.ret _)
    simp only [spec_FilterAtEnd.l0]
    rw [if_neg (by omega)]
  | d + 1, n, hd => by
    have ih := specEnd_out c A d (n + 1) (by omega)
    refine Evt.step (fun q => ?_) (specEnd_in c A n (by omega) _ ih (min l.length (n + 1)) 0 (by omega))
    simp only [spec_FilterAtEnd.l0]
    rw [if_pos (by omega)]; rfl
theorem specAtE_val (b : Int) (c : Bool) (l s : List Int) (sh m : Int) : Evt (fun q => spec_FilterAtEnd.f q b c l s sh m) (atE b c l s sh m) := by
  unfold spec_FilterAtEnd.f atE
  refine Evt.bind (weInWord_val b c l s sh m) ?_
  by_cases h : askB b l s sh m = true
  · rw [if_pos h]
    exact Evt.pos h (specEnd_out c (ask_iff h) s.length 0 (by omega))
  · rw [if_neg h]; exact Evt.neg h (Evt.ret _)

/-! ### the rest of what is asked -/
theorem short_val {b : Int} {l s : List Int} {sh m : Int} (A : AskF b l s sh m) : Evt (fun q => impl_FilterShort.f q l s) (told ((List.range s.length).map (fun j : Nat => cv l s j l.length))) := by
  unfold impl_FilterShort.f
  refine Evt.bindp (isWeights_val l) (Evt.pos (wei_iff.mpr ⟨⟨A.len1, A.len9⟩, A.wl⟩) (Evt.bindp (isSignal_val s) ?_))
  rw [sig_iff.mpr ⟨A.slen, A.ws⟩]
  refine Evt.step (fun q => by simp only [impl_FilterShort.j0]; rw [if_neg (by simp)]) ?_
  have e := ans_take l s A.len1
  have hlen : s.length ≤ (if s.length = 0 then [] else ans l s).length := by
    have := congrArg List.length e
    simp only [List.length_take, List.length_map, List.length_range] at this
    omega
  refine Evt.bind (answer_val l s A.wl A.ws A.len1 (by have := A.len9; omega) (by have := A.slen; omega)) (Evt.pos (by omega) (Evt.pos (by omega) ?_))
  rw [Int.toNat_natCast, e, told_val]
  exact Evt.ret _
theorem rangeOf_val {b : Int} (c : Bool) (h : WordB b) : impl_RangeOf.f b c = some (-(Hf b), Hf b - 1, true) := by
  unfold impl_RangeOf.f
  rw [isWord_val]; simp only [Option.bind_some]
  rw [if_pos (wordB_iff.mpr h), ends_val c h]; rfl
theorem isNumber_val {x : Int} (h0 : -1000000000000 ≤ x) (h1 : x ≤ 1000000000000) : impl_isNumber.f x = some true := by
  unfold impl_isNumber.f; rw [in_val, inB_iff.mpr ⟨h0, h1⟩]; rfl
theorem roundShift_val {x s m : Int} (h : shiB s m = true) (h0 : 0 ≤ s) (h1 : s ≤ 20) (hx0 : -1000000000 ≤ x) (hx1 : x ≤ 1000000000) : Evt (fun q => impl_RoundShift.f q x s m) (shG x s m, true) := by
  unfold impl_RoundShift.f
  refine Evt.bindp (isNumber_val (by omega) (by omega)) (Evt.pos rfl (Evt.bindp (isShift_val s m) (Evt.pos h (Evt.bind (shifted_val h0 h1 (by omega) (by omega)) (Evt.ret _)))))
theorem fitNumber_val {b : Int} (c : Bool) (h : WordB b) {x : Int} (hx0 : -1000000000 ≤ x) (hx1 : x ≤ 1000000000) : impl_FitNumber.f b c x = some (fitG b c x, true) := by
  unfold impl_FitNumber.f
  rw [isWord_val]; simp only [Option.bind_some]
  rw [if_pos (wordB_iff.mpr h), isNumber_val (by omega) (by omega)]; simp only [Option.bind_some]
  rw [if_pos trivial, fit_val c h (by omega) (by omega)]; rfl
theorem iWrap_val {b : Int} (h : WordB b) {x : Int} : laws_iWrap.f x b = some (fitG b true x) := by
  have hr := Hf_rng h
  have hb := h.1
  obtain ⟨t1, t2⟩ := tmod_rng (x := x) (by omega : 0 < 2 * Hf b)
  have a1 := Int.emod_nonneg x (by omega : 2 * Hf b ≠ 0)
  have a2 := Int.emod_lt_of_pos x (by omega : 0 < 2 * Hf b)
  have e : wrap64 (Int.tdiv (2 * Hf b) 2) = Hf b := by rw [tdiv_nn (by omega), Int.mul_ediv_cancel_left _ (by omega : (2 : Int) ≠ 0), w64 (by omega) (by omega)]
  unfold laws_iWrap.f fitG
  rw [if_pos (by omega), shl_all h, if_neg (by omega), e, w64 (x := Int.tmod x (2 * Hf b) + 2 * Hf b) (by omega) (by omega), tmod_twice (by omega), if_pos rfl, wrap_mod (by omega)]
  clear e
  by_cases c1 : x % (2 * Hf b) > Hf b - 1
  · rw [if_pos (by omega), if_pos c1, w64 (by omega) (by omega)]
  · rw [if_neg (by omega), if_neg c1]
end Go.Proofs.Ytjbpflfihdabhaa.PureF
