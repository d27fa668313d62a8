/- What the functions that the first statement reaches compute, in plain Lean: the draws, the samples at another rate, the least ratio. No condition. -/
import Derived.Test.YtjbpflfihdabhaaPFnRatesChangedx1
import Derived.Test.YtjbpflfihdabhaaPFnRatesChangedx2
import Derived.Test.YtjbpflfihdabhaaPFnRatesChangedx3
import Derived.Test.YtjbpflfihdabhaaPFnRatesChangedx4
import Derived.Test.YtjbpflfihdabhaaPFnRatesChangedx5
import Derived.Test.YtjbpflfihdabhaaPFnRatesChangedx6
import Derived.Test.YtjbpflfihdabhaaBase
import Derived.Laws.BitsLemmas
namespace Go.Proofs.Ytjbpflfihdabhaa.Pure
open Go.RowKit Go.Proofs.Ytjbpflfihdabhaa.PFnRatesChanged Go.Proofs.YtjbpflfihdabhaaW.PrintWords Go.Proofs.YtjbpflfihdabhaaW.PrintLast Go.Proofs.YtjbpflfihdabhaaW.PrintMore Go.Proofs.Ytjbpflfihdabhaa.Base
set_option linter.unusedVariables false
set_option linter.unusedSimpArgs false

/-! ### what is drawn -/
def Bytes (s : List Int) : Prop := ∀ x ∈ s, 0 ≤ x ∧ x ≤ 255
theorem and255 (x : Int) (h0 : 0 ≤ x) (h1 : x < 18446744073709551616) : Go.bits .and .u64 x 255 = x % 256 :=
  bits_mask .u64 64 (by decide) (fun n h0 h1 => by simp [IntKind.wrap, IntKind.bits, IntKind.signed]; omega) 8 (by decide) x h0 h1
theorem u64_rng (x : Int) : 0 ≤ IntKind.u64.wrap x ∧ IntKind.u64.wrap x < 18446744073709551616 := by
  simp [IntKind.wrap, IntKind.bits, IntKind.signed]; omega
theorem next_some (s : List Int) (p seed : Int) (hs : Bytes s) (h0 : 0 ≤ p) (h1 : p ≤ 1000000) :
    ∃ b seed', spec_l1Cur_next.f s p seed = some (b, p + 1, seed') ∧ 0 ≤ b ∧ b ≤ 255 := by
  have hw : wrap64 (p + 1) = p + 1 := w64 (by omega) (by omega)
  have hx : ∀ y : Int, 0 ≤ wrap64 (Go.bits .and .u64 (IntKind.u64.wrap y / 1099511627776) 255) ∧ wrap64 (Go.bits .and .u64 (IntKind.u64.wrap y / 1099511627776) 255) ≤ 255 := fun y => by
    have := u64_rng y
    rw [and255 _ (by omega) (by omega), w64 (by omega) (by omega)]; omega
  unfold spec_l1Cur_next.f
  rw [hw]
  by_cases hp : p < (s.length : Int)
  · have hb := hs _ (rd_mem h0 hp)
    rw [if_pos hp, if_pos h0]
    by_cases hq : p + 1 ≤ (s.length : Int)
    · rw [if_pos hq]
      exact ⟨_, _, rfl, by rw [w64 (by omega) (by omega)]; exact hb.1, by rw [w64 (by omega) (by omega)]; exact hb.2⟩
    · omega
  · rw [if_neg hp, if_neg (by omega)]
    exact ⟨_, _, rfl, hx _⟩
theorem pick_some (s : List Int) (p seed n : Int) (hs : Bytes s) (h0 : 0 ≤ p) (h1 : p ≤ 900000) (hn : n ≤ 1000000) :
    ∃ x p' seed', spec_l1Cur_pick.f s p seed n = some (x, p', seed') ∧ 0 ≤ x ∧ x ≤ max 0 (n - 1) ∧ p ≤ p' ∧ p' ≤ p + 2 := by
  unfold spec_l1Cur_pick.f
  by_cases c : n ≤ 1
  · rw [if_pos c]
    exact ⟨_, _, _, rfl, by omega, by omega, by omega, by omega⟩
  · obtain ⟨b, sd, e, hb0, hb1⟩ := next_some s p seed hs h0 (by omega)
    rw [if_neg c, e]
    simp only [Option.bind_some]
    by_cases d : n > 200
    · obtain ⟨b', sd', e', hb0', hb1'⟩ := next_some s (p + 1) sd hs (by omega) (by omega)
      rw [if_pos d, e']
      simp only [Option.bind_some]
      rw [if_neg (by omega), w64 (x := b * 256) (by omega) (by omega), w64 (x := b * 256 + b') (by omega) (by omega), tmod_nn (by omega)]
      have := Int.emod_nonneg (b * 256 + b') (by omega : n ≠ 0)
      have := Int.emod_lt_of_pos (b * 256 + b') (by omega : 0 < n)
      exact ⟨_, _, _, rfl, by omega, by omega, by omega, by omega⟩
    · rw [if_neg d, if_neg (by omega), tmod_nn (by omega)]
      have := Int.emod_nonneg b (by omega : n ≠ 0)
      have := Int.emod_lt_of_pos b (by omega : 0 < n)
      exact ⟨_, _, _, rfl, by omega, by omega, by omega, by omega⟩
theorem one_some (s : List Int) (p seed n : Int) (hs : Bytes s) (h0 : 0 ≤ p) (h1 : p ≤ 900000) (hn : n ≤ 1000000) :
    ∃ b p' seed', spec_l1Cur_one.f s p seed n = some (b, p', seed') ∧ p ≤ p' ∧ p' ≤ p + 2 := by
  obtain ⟨x, p', sd, e, _, _, g1, g2⟩ := pick_some s p seed n hs h0 h1 hn
  unfold spec_l1Cur_one.f
  rw [e]
  exact ⟨_, _, _, rfl, g1, g2⟩
theorem among_some (s : List Int) (p seed : Int) (l : List Int) (hs : Bytes s) (h0 : 0 ≤ p) (h1 : p ≤ 900000) (hl : 0 < l.length) (hn : (l.length : Int) ≤ 1000000) :
    ∃ x p' seed', spec_l1Cur_among.f s p seed l = some (x, p', seed') ∧ x ∈ l ∧ p ≤ p' ∧ p' ≤ p + 2 := by
  obtain ⟨x, p', sd, e, a, b, g1, g2⟩ := pick_some s p seed l.length hs h0 h1 hn
  unfold spec_l1Cur_among.f
  rw [e]
  simp only [Option.bind_some]
  rw [if_pos a, if_pos (by omega)]
  exact ⟨_, _, _, rfl, rd_mem a (by omega), g1, g2⟩
/-- what a drawn list may hold: numbers that fit, and not many -/
def Fit (l : List Int) : Prop := l.length ≤ 200 ∧ ∀ x ∈ l, -4611686018427387904 ≤ x ∧ x ≤ 4611686018427387904
theorem Fit.snoc {l : List Int} (h : Fit l) {x : Int} (hl : l.length ≤ 199) (h0 : -4611686018427387904 ≤ x) (h1 : x ≤ 4611686018427387904) : Fit (l ++ [x]) :=
  ⟨by simp; omega, fun y hy => by
    rcases List.mem_append.mp hy with hy | hy
    · exact h.2 y hy
    · rw [List.mem_singleton] at hy; subst hy; exact ⟨h0, h1⟩⟩
theorem Fit.zeros (n : Nat) (h : n ≤ 200) : Fit (List.replicate n 0) :=
  ⟨by simpa using h, fun x hx => by rw [(List.mem_replicate.mp hx).2]; omega⟩
theorem signal_loop (s : List Int) (size : Int) (hs : Bytes s) (h2 : 0 ≤ size) (h3 : size ≤ 400000) : ∀ (d : Nat) (out : List Int) (p seed : Int),
    0 ≤ p → p + 4 * d + 10 ≤ 900000 → out.length + d ≤ 190 → Fit out →
    ∃ r p' seed', Evt (fun k => spec_l1Cur_signal.l0 k size out d s p seed) (r, p', seed') ∧ Fit r ∧ 0 ≤ p' ∧ p' ≤ p + 4 * d + 10
  | 0, out, p, seed, h0, h1, hl, hf => by
    have hsz : out.length < 17592186044416 := by omega
    obtain ⟨x, p1, s1, e1, a1, b1, g1, g2⟩ := pick_some s p seed 16 hs h0 (by omega) (by omega)
    by_cases c0 : x = 0
    · obtain ⟨y, p2, s2, e2, m2, g3, g4⟩ := among_some s p1 s1 [100000, -100000, 100001, 4611686018427387904] hs (by omega) (by omega) (by simp) (by simp)
      refine ⟨out ++ [y], p2, s2, Evt.step (h := fun _ => some (out ++ [y], p2, s2)) (fun k => ?_) (Evt.ret _), hf.snoc (by omega) ?_ ?_, by omega, by omega⟩
      · simp only [spec_l1Cur_signal.l0]
        rw [if_neg (by omega), e1]; simp only [Option.bind_some]
        rw [if_pos c0, e2]; simp only [Option.bind_some]
        rw [if_pos hsz]
      · simp at m2; rcases m2 with rfl | rfl | rfl | rfl <;> omega
      · simp at m2; rcases m2 with rfl | rfl | rfl | rfl <;> omega
    · by_cases c1 : x = 1
      · obtain ⟨y, p2, s2, e2, a2, b2, g3, g4⟩ := pick_some s p1 s1 2 hs (by omega) (by omega) (by omega)
        have hw : wrap64 (64 + y) = 64 + y := w64 (by omega) (by omega)
        refine ⟨List.replicate (64 + y).toNat 0, p2, s2, Evt.step (h := fun _ => some (List.replicate (64 + y).toNat 0, p2, s2)) (fun k => ?_) (Evt.ret _), Fit.zeros _ (by omega), by omega, by omega⟩
        simp only [spec_l1Cur_signal.l0]
        rw [if_neg (by omega), e1]; simp only [Option.bind_some]
        rw [if_neg c0, if_pos c1, e2]; simp only [Option.bind_some]
        rw [hw, if_pos (by omega), if_pos (by omega)]
      · refine ⟨out, p1, s1, Evt.step (h := fun _ => some (out, p1, s1)) (fun k => ?_) (Evt.ret _), hf, by omega, by omega⟩
        simp only [spec_l1Cur_signal.l0]
        rw [if_neg (by omega), e1]; simp only [Option.bind_some]
        rw [if_neg c0, if_neg c1]
  | d + 1, out, p, seed, h0, h1, hl, hf => by
    have hsz : out.length < 17592186044416 := by omega
    have hd : wrap64 (((d + 1 : Nat) : Int) - 1) = (d : Int) := by rw [w64 (by omega) (by omega)]; omega
    obtain ⟨b, p1, s1, e1, g1, g2⟩ := one_some s p seed 4 hs h0 (by omega) (by omega)
    cases b with
    | true =>
      obtain ⟨r, p', sd, hr, hf', q0, q1⟩ := signal_loop s size hs h2 h3 d (out ++ [0]) p1 s1 (by omega) (by omega) (by simp; omega) (hf.snoc (by omega) (by omega) (by omega))
      refine ⟨r, p', sd, Evt.step (fun k => ?_) hr, hf', q0, by omega⟩
      simp only [spec_l1Cur_signal.l0]
      rw [if_pos (by omega), e1]; simp only [Option.bind_some, if_true]
      rw [if_pos hsz, hd]
    | false =>
      have hw : wrap64 (wrap64 (2 * size) + 1) = 2 * size + 1 := by rw [w64 (x := 2 * size) (by omega) (by omega), w64 (by omega) (by omega)]
      obtain ⟨y, p2, s2, e2, a2, b2, g3, g4⟩ := pick_some s p1 s1 (2 * size + 1) hs (by omega) (by omega) (by omega)
      have hy : wrap64 (y - size) = y - size := w64 (by omega) (by omega)
      obtain ⟨r, p', sd, hr, hf', q0, q1⟩ := signal_loop s size hs h2 h3 d (out ++ [y - size]) p2 s2 (by omega) (by omega) (by simp; omega) (hf.snoc (by omega) (by omega) (by omega))
      refine ⟨r, p', sd, Evt.step (fun k => ?_) hr, hf', q0, by omega⟩
      simp only [spec_l1Cur_signal.l0]
      rw [if_pos (by omega), e1]; simp only [Option.bind_some]
      rw [if_neg (by simp), hw, e2]; simp only [Option.bind_some]
      rw [if_pos hsz, hd, hy]
theorem signal_some (s : List Int) (p seed most size : Int) (hs : Bytes s) (h0 : 0 ≤ p) (h1 : p ≤ 100000) (h2 : 0 ≤ most) (h3 : most ≤ 180) (h4 : 0 ≤ size) (h5 : size ≤ 400000) :
    ∃ r p' seed', Evt (fun k => spec_l1Cur_signal.f k s p seed most size) (r, p', seed') ∧ Fit r ∧ 0 ≤ p' ∧ p' ≤ p + 1000 := by
  obtain ⟨x, p1, s1, e1, a1, b1, g1, g2⟩ := pick_some s p seed (most + 1) hs h0 (by omega) (by omega)
  obtain ⟨r, p', sd, hr, hf, q0, q1⟩ := signal_loop s size hs h4 h5 x.toNat [] p1 s1 (by omega) (by omega) (by simp; omega) ⟨by simp, by simp⟩
  refine ⟨r, p', sd, ?_, hf, q0, by omega⟩
  unfold spec_l1Cur_signal.f
  refine Evt.bindp (by rw [w64 (by omega) (by omega)]; exact e1) ?_
  rw [Int.toNat_of_nonneg a1] at hr
  exact hr

/-! ### tests -/
def inB (a lo hi : Int) : Bool := decide (lo ≤ a) && decide (a ≤ hi)
theorem inB_iff {a lo hi : Int} : inB a lo hi = true ↔ lo ≤ a ∧ a ≤ hi := by simp [inB]
theorem in_val (a lo hi : Int) : impl_in.f a lo hi = some (inB a lo hi) := by
  unfold impl_in.f inB; by_cases h : lo ≤ a <;> simp [h]
theorem l1In_val (a lo hi : Int) : spec_l1In.f a lo hi = some (inB a lo hi) := by
  unfold spec_l1In.f inB; by_cases h : lo ≤ a <;> simp [h]
def sig (l : List Int) : Bool := decide (l.length ≤ 64) && l.all (fun x => decide (-100000 ≤ x) && decide (x ≤ 100000))
theorem sig_iff {l : List Int} : sig l = true ↔ l.length ≤ 64 ∧ ∀ x ∈ l, -100000 ≤ x ∧ x ≤ 100000 := by simp [sig]
theorem isSignal_val (l : List Int) : impl_isSignal.f l = some (sig l) := rfl
theorem l1All_loop (lo hi : Int) (l : List Int) (hb : l.length ≤ 1000000) : ∀ (d i : Nat), i + d = l.length →
    Evt (fun k => spec_l1All.l0 k lo hi l l.length i) ((l.drop i).all (fun x => inB x lo hi))
  | 0, i, h => by
    refine Evt.step (h := fun _ => some true) (fun k => ?_) ((Evt.ret _).eq (by rw [List.drop_of_length_le (by omega)]; rfl))
    simp only [spec_l1All.l0]; rw [if_neg (by omega)]
  | d + 1, i, h => by
    have ih := l1All_loop lo hi l hb d (i + 1) (by omega)
    have e : (l.drop i).all (fun x => inB x lo hi) = (inB (rd l i) lo hi && (l.drop (i + 1)).all (fun x => inB x lo hi)) := by rw [drop_rd l i (by omega), List.all_cons]
    rw [e]
    cases hx : inB (rd l i) lo hi with
    | true =>
      refine Evt.step (fun k => ?_) (ih.eq (by simp))
      simp only [spec_l1All.l0]
      rw [if_pos (by omega), if_pos (by omega), if_pos (by omega), l1In_val, hx]; simp only [Option.bind_some, if_true]
      rw [w64 (by omega) (by omega)]; rfl
    | false =>
      refine Evt.step (h := fun _ => some false) (fun k => ?_) ((Evt.ret _).eq (by simp))
      simp only [spec_l1All.l0]
      rw [if_pos (by omega), if_pos (by omega), if_pos (by omega), l1In_val, hx]; simp only [Option.bind_some]
      rw [if_neg (by simp)]
theorem l1All_val (l : List Int) (lo hi : Int) (hb : l.length ≤ 1000000) : Evt (fun k => spec_l1All.f k l lo hi) (l.all (fun x => inB x lo hi)) :=
  (l1All_loop lo hi l hb l.length 0 (by omega)).eq (by simp)
theorem wdSignal_val (l : List Int) : Evt (fun k => spec_wdSignal.f k l) (sig l) := by
  unfold spec_wdSignal.f sig
  by_cases h : l.length ≤ 64
  · refine Evt.pos (by omega) (Evt.bind (l1All_val l _ _ (by omega)) ((Evt.ret _).eq ?_))
    simp [h]; rfl
  · refine Evt.neg (by omega) ((Evt.ret _).eq ?_)
    simp [h]
def told (l : List Int) : List Int × Bool := if sig l = true then (l, true) else ([], false)
theorem told_val (l : List Int) : impl_told.f l = some (told l) := by
  unfold impl_told.f told; rw [isSignal_val]; simp only [Option.bind_some]; split <;> rfl
theorem wdIf_val (l : List Int) : Evt (fun k => spec_wdIf.f k l) (told l) := by
  unfold spec_wdIf.f told
  refine Evt.bind (wdSignal_val l) ?_
  by_cases h : sig l = true
  · exact Evt.pos h ((Evt.ret _).eq (by rw [if_pos h]))
  · exact Evt.neg h ((Evt.ret _).eq (by rw [if_neg h]))
theorem iSame_loop (a b : List Int) (hl : a.length = b.length) (hb : a.length ≤ 1000000) : ∀ (d i : Nat), i + d = a.length →
    Evt (fun k => laws_iSame.l0 k a b a.length i) (decide (a.drop i = b.drop i))
  | 0, i, h => by
    refine Evt.step (h := fun _ => some true) (fun k => ?_) ((Evt.ret _).eq (by rw [List.drop_of_length_le (by omega), List.drop_of_length_le (by omega)]; rfl))
    simp only [laws_iSame.l0]; rw [if_neg (by omega)]
  | d + 1, i, h => by
    have ih := iSame_loop a b hl hb d (i + 1) (by omega)
    rw [drop_rd a i (by omega), drop_rd b i (by omega)]
    by_cases hx : rd a i = rd b i
    · refine Evt.step (fun k => ?_) (ih.eq (by simp [hx]))
      simp only [laws_iSame.l0]
      rw [if_pos (by omega), if_pos (by omega), if_pos (by omega), if_pos (by omega), if_pos hx, w64 (by omega) (by omega)]; rfl
    · refine Evt.step (h := fun _ => some false) (fun k => ?_) ((Evt.ret _).eq (by simp [hx]))
      simp only [laws_iSame.l0]
      rw [if_pos (by omega), if_pos (by omega), if_pos (by omega), if_pos (by omega), if_neg hx]
theorem iSame_val (a b : List Int) (hb : a.length ≤ 1000000) : Evt (fun k => laws_iSame.f k a b) (decide (a = b)) := by
  unfold laws_iSame.f
  by_cases h : a.length = b.length
  · exact Evt.pos (by omega) ((iSame_loop a b h hb a.length 0 (by omega)).eq (by simp))
  · exact Evt.neg (by omega) ((Evt.ret _).eq (by symm; exact decide_eq_false (fun e => h (by rw [e]))))
theorem iSame_same (a : List Int) (hb : a.length ≤ 1000000) : Evt (fun k => laws_iSame.f k a a) true := (iSame_val a a hb).eq (by simp)


/-! ### resampling -/
def Ratio (p q : Int) : Prop := (1 ≤ p ∧ p ≤ 8) ∧ 1 ≤ q ∧ q ≤ 8
def ratB (p q : Int) : Bool := inB p 1 8 && inB q 1 8
theorem ratB_iff {p q : Int} : ratB p q = true ↔ Ratio p q := by simp [ratB, inB_iff, Ratio]
theorem isRatio_val (p q : Int) : impl_isRatio.f p q = some (ratB p q) := by
  unfold impl_isRatio.f ratB; rw [in_val, in_val]; simp only [Option.bind_some]
  cases inB p 1 8 <;> simp
theorem rsRatio_val (p q : Int) : spec_rsRatio.f p q = some (ratB p q) := by
  unfold spec_rsRatio.f ratB; rw [l1In_val, l1In_val]; simp only [Option.bind_some]
  cases inB p 1 8 <;> simp
def lenA (n p q : Int) : Int := (n * p + q - 1) / q
theorem small_mul {a b : Int} {A B : Nat} (h0 : 0 ≤ a) (h1 : a ≤ A) (h2 : 0 ≤ b) (h3 : b ≤ B) : 0 ≤ a * b ∧ a * b ≤ (A * B : Nat) := by
  refine ⟨Int.mul_nonneg h0 h2, ?_⟩
  have := Int.mul_le_mul h1 h3 h2 (by omega)
  rw [Int.natCast_mul]; exact this
theorem lenA_rng {n p q : Int} (hn0 : 0 ≤ n) (hn1 : n ≤ 64) (h : Ratio p q) : 0 ≤ lenA n p q ∧ lenA n p q ≤ 520 := by
  obtain ⟨⟨a, b⟩, c, d⟩ := h
  have hm := small_mul (A := 64) (B := 8) hn0 hn1 (by omega : 0 ≤ p) b
  unfold lenA
  refine ⟨Int.ediv_nonneg (by omega) (by omega), ?_⟩
  have h1 : (n * p + q - 1) / q ≤ (n * p + q - 1) := Int.ediv_le_self _ (by omega)
  omega
theorem len_body {n p q : Int} (hn0 : 0 ≤ n) (hn1 : n ≤ 64) (h : Ratio p q) : wrap64 (Int.tdiv (wrap64 (wrap64 (wrap64 (n * p) + q) - 1)) q) = lenA n p q := by
  have hr := lenA_rng hn0 hn1 h
  obtain ⟨⟨a, b⟩, c, d⟩ := h
  have hm := small_mul (A := 64) (B := 8) hn0 hn1 (by omega : 0 ≤ p) b
  rw [w64 (x := n * p) (by omega) (by omega), w64 (x := n * p + q) (by omega) (by omega), w64 (x := n * p + q - 1) (by omega) (by omega), tdiv_nn (by omega)]
  exact w64 (by unfold lenA at hr; omega) (by unfold lenA at hr; omega)
theorem lengthAfter_val {n p q : Int} (hn0 : 0 ≤ n) (hn1 : n ≤ 64) (h : Ratio p q) : impl_lengthAfter.f n p q = some (lenA n p q) := by
  unfold impl_lengthAfter.f; rw [if_neg (by have := h.2; omega), len_body hn0 hn1 h]
theorem rsLength_val {n p q : Int} (hn0 : 0 ≤ n) (hn1 : n ≤ 64) (h : Ratio p q) : spec_rsLength.f n p q = some (lenA n p q) := by
  unfold spec_rsLength.f; rw [if_neg (by have := h.2; omega), len_body hn0 hn1 h]
/-- the source and the part of sample i -/
theorem src_body {i p q : Int} (h0 : 0 ≤ i) (h1 : i ≤ 1001) (h : Ratio p q) : wrap64 (Int.tdiv (wrap64 (i * q)) p) = i * q / p ∧ Int.tmod (wrap64 (i * q)) p = i * q % p ∧ 0 ≤ i * q / p ∧ i * q / p ≤ 8008 ∧ 0 ≤ i * q % p ∧ i * q % p < p := by
  obtain ⟨⟨a, b⟩, c, d⟩ := h
  have hm := small_mul (A := 1001) (B := 8) h0 h1 (by omega : 0 ≤ q) d
  have h5 : 0 ≤ i * q / p := Int.ediv_nonneg (by omega) (by omega)
  have h6 : i * q / p ≤ i * q := Int.ediv_le_self _ (by omega)
  rw [w64 (x := i * q) (by omega) (by omega), tdiv_nn (by omega), tmod_nn (by omega), w64 (by omega) (by omega)]
  exact ⟨rfl, rfl, h5, by omega, Int.emod_nonneg _ (by omega), Int.emod_lt_of_pos _ (by omega)⟩
/-- a source is one of the signal's samples -/
theorem src_lt {n i p q : Int} (hn : 0 ≤ n) (h0 : 0 ≤ i) (h1 : i < lenA n p q) (h : Ratio p q) : i * q / p < n := by
  obtain ⟨⟨a, b⟩, c, d⟩ := h
  unfold lenA at h1
  have h2 : i * q < n * p := by
    have h3 : (i + 1) * q ≤ n * p + q - 1 := by
      have := Int.le_ediv_iff_mul_le (by omega : 0 < q) |>.mp (by omega : i + 1 ≤ (n * p + q - 1) / q)
      exact this
    rw [Int.add_mul] at h3
    omega
  exact Int.ediv_lt_of_lt_mul (by omega) h2
def outOf (s : List Int) (p q : Int) (g : Nat → Int) : List Int := (List.range (lenA s.length p q).toNat).map g
theorem out_snoc (n i : Nat) (g : Nat → Int) (h : i < n) (out : List Int) : (out ++ [g i]) ++ ((List.range n).drop (i + 1)).map g = out ++ ((List.range n).drop i).map g := by
  rw [range_drop n i h]; simp
theorem resample_loop (F : Int → Int → Option Int) (p q : Int) (h : Ratio p q) (n : Nat) (hn : n ≤ 600) (g : Nat → Int) (hF : ∀ i : Nat, i < n → F ((i : Int) * q / p) ((i : Int) * q % p) = some (g i)) :
    ∀ (d i : Nat) (out : List Int), i + d = n → out.length = i → Evt (fun k => impl_resample.l0 F k p q out n i) (told (out ++ ((List.range n).drop i).map g))
  | 0, i, out, hi, ho => by
    refine Evt.step (h := fun _ => some (told out)) (fun k => ?_) ((Evt.ret _).eq (by rw [List.drop_of_length_le (by simp; omega)]; simp))
    simp only [impl_resample.l0]; rw [if_neg (by omega), told_val]; rfl
  | d + 1, i, out, hi, ho => by
    have ih := resample_loop F p q h n hn g hF d (i + 1) (out ++ [g i]) (by omega) (by simp; omega)
    rw [out_snoc n i g (by omega)] at ih
    obtain ⟨e1, e2, _⟩ := src_body (i := i) (by omega) (by omega) h
    refine Evt.step (fun k => ?_) ih
    simp only [impl_resample.l0]
    rw [if_pos (by omega), if_neg (by have := h.1; omega), e1, e2, hF i (by omega)]; simp only [Option.bind_some]
    rw [if_pos (by omega), w64 (by omega) (by omega)]; rfl
/-- a signal at another rate, or nothing -/
def resampled (s : List Int) (p q : Int) (g : Nat → Int) : List Int × Bool := if sig s = true ∧ ratB p q = true then told (outOf s p q g) else ([], false)
theorem resample_val (F : Int → Int → Option Int) (s : List Int) (p q : Int) (g : Nat → Int) (hF : sig s = true → ratB p q = true → ∀ i : Nat, (i : Int) < lenA s.length p q → F ((i : Int) * q / p) ((i : Int) * q % p) = some (g i)) :
    Evt (fun k => impl_resample.f F k s p q) (resampled s p q g) := by
  unfold impl_resample.f resampled
  refine Evt.bindp (isSignal_val s) ?_
  by_cases hs : sig s = true
  · refine Evt.pos hs (Evt.bindp (isRatio_val p q) ?_)
    by_cases hr : ratB p q = true
    · have hR := ratB_iff.mp hr
      have hl := (sig_iff.mp hs).1
      have hL := lenA_rng (n := s.length) (by omega) (by omega) hR
      have hloop := resample_loop F p q hR (lenA s.length p q).toNat (by omega) g (fun i hi => hF hs hr i (by omega)) (lenA s.length p q).toNat 0 [] (by omega) rfl
      refine Evt.step (fun k => ?_) (hloop.eq (by rw [if_pos ⟨hs, hr⟩]; simp [outOf]))
      simp only [impl_resample.j0]
      rw [if_neg (by simp [hr]), lengthAfter_val (by omega) (by omega) hR]; simp only [Option.bind_some]
      rw [Int.toNat_of_nonneg hL.1]; rfl
    · refine Evt.step (h := fun _ => some ([], false)) (fun k => ?_) ((Evt.ret _).eq (by rw [if_neg (fun h => hr h.2)]))
      simp only [impl_resample.j0]; rw [if_pos (by simp [hr])]
  · refine Evt.neg hs (Evt.step (h := fun _ => some ([], false)) (fun k => ?_) ((Evt.ret _).eq (by rw [if_neg (fun h => hs h.1)])))
    simp only [impl_resample.j0]; simp
theorem hold_impl (s : List Int) (p q : Int) : Evt (fun k => impl_HoldSamples.f k s p q) (resampled s p q (fun i => rd s ((i : Int) * q / p))) := by
  refine resample_val _ s p q _ (fun hs hr i hi => ?_)
  have hR := ratB_iff.mp hr
  have hl := lenA_rng (n := s.length) (by omega) (by have := (sig_iff.mp hs).1; omega) hR
  obtain ⟨_, _, a, b, c, d⟩ := src_body (i := i) (by omega) (by omega) hR
  have := src_lt (n := s.length) (i := i) (by omega) (by omega) hi hR
  unfold holdF atF
  rw [if_pos a, if_pos this]
theorem near_impl (s : List Int) (p q : Int) : Evt (fun k => impl_NearSamples.f k s p q) (resampled s p q (fun i => if 2 * ((i : Int) * q % p) < p ∨ (i : Int) * q / p = (s.length : Int) - 1 then rd s ((i : Int) * q / p) else rd s ((i : Int) * q / p + 1))) := by
  refine resample_val _ s p q _ (fun hs hr i hi => ?_)
  have hR := ratB_iff.mp hr
  have hl := lenA_rng (n := s.length) (by omega) (by have := (sig_iff.mp hs).1; omega) hR
  obtain ⟨_, _, a, b, c, d⟩ := src_body (i := i) (by omega) (by omega) hR
  have h1 := src_lt (n := s.length) (i := i) (by omega) (by omega) hi hR
  have h2 := (sig_iff.mp hs).1
  have h3 := hR.1
  unfold nearF atF
  rw [w64 (x := 2 * ((i : Int) * q % p)) (by omega) (by omega), w64 (x := (i : Int) * q / p + 1) (by omega) (by omega)]
  by_cases c1 : 2 * ((i : Int) * q % p) < p
  · rw [if_pos c1, if_pos a, if_pos h1, if_pos (Or.inl c1)]
  · by_cases c2 : (i : Int) * q / p = (s.length : Int) - 1
    · rw [if_neg c1, if_pos c2, if_pos a, if_pos h1, if_pos (Or.inr c2)]
    · rw [if_neg c1, if_neg c2, if_pos (by omega), if_pos (by omega), if_neg (by omega)]
def lineAt (s : List Int) (p : Int) (x y : Int) : Int := (p - y) * rd s x + y * rd s (if x + 1 < (s.length : Int) then x + 1 else x)
theorem sample_rng {s : List Int} (hs : sig s = true) {x : Int} (h0 : 0 ≤ x) (h1 : x < s.length) : -100000 ≤ rd s x ∧ rd s x ≤ 100000 := (sig_iff.mp hs).2 _ (rd_mem h0 h1)
theorem mul_rng {a b : Int} {A B : Nat} (h0 : -(A : Int) ≤ a) (h1 : a ≤ A) (h2 : -(B : Int) ≤ b) (h3 : b ≤ B) : -((A * B : Nat) : Int) ≤ a * b ∧ a * b ≤ ((A * B : Nat) : Int) := by
  have e : ((A * B : Nat) : Int) = (A : Int) * B := Int.natCast_mul A B
  rw [e]
  have hn : a.natAbs * b.natAbs ≤ A * B := Nat.mul_le_mul (by omega) (by omega)
  rw [← Int.natAbs_mul] at hn
  have : ((A * B : Nat) : Int) = (A : Int) * B := e
  omega
theorem line_impl (s : List Int) (p q : Int) : Evt (fun k => impl_LineSamples.f k s p q) (resampled s p q (fun i => lineAt s p ((i : Int) * q / p) ((i : Int) * q % p))) := by
  refine resample_val _ s p q _ (fun hs hr i hi => ?_)
  have hR := ratB_iff.mp hr
  have hl := lenA_rng (n := s.length) (by omega) (by have := (sig_iff.mp hs).1; omega) hR
  obtain ⟨_, _, a, b, c, d⟩ := src_body (i := i) (by omega) (by omega) hR
  have h1 := src_lt (n := s.length) (i := i) (by omega) (by omega) hi hR
  have h2 := (sig_iff.mp hs).1
  have h3 := hR.1
  generalize (i : Int) * q / p = x at *
  generalize (i : Int) * q % p = y at *
  have hm : mn (wrap64 (x + 1)) ((s.length : Int) - 1) = (if x + 1 < (s.length : Int) then x + 1 else x) := by
    rw [w64 (by omega) (by omega)]; unfold mn
    by_cases c : (s.length : Int) - 1 < x + 1
    · rw [if_pos c, if_neg (by omega)]; omega
    · rw [if_neg c, if_pos (by omega)]
  unfold lineF lineAt
  rw [hm]
  have hz : 0 ≤ (if x + 1 < (s.length : Int) then x + 1 else x) ∧ (if x + 1 < (s.length : Int) then x + 1 else x) < (s.length : Int) := by split <;> omega
  generalize (if x + 1 < (s.length : Int) then x + 1 else x) = z at *
  have u := sample_rng hs a h1
  have v := sample_rng hs hz.1 hz.2
  unfold atF
  rw [if_pos hz.1, if_pos hz.2]; simp only [Option.bind_some]
  rw [if_pos a, if_pos h1]; simp only [Option.bind_some]
  generalize rd s x = m at *
  generalize rd s z = n at *
  have m1 := mul_rng (A := 8) (B := 100000) (a := p) (b := m) (by omega) (by omega) (by omega) (by omega)
  have m2 := mul_rng (A := 8) (B := 200000) (a := y) (b := n - m) (by omega) (by omega) (by omega) (by omega)
  rw [w64 (x := p * m) (by omega) (by omega), w64 (x := n - m) (by omega) (by omega), w64 (x := y * (n - m)) (by omega) (by omega), w64 (by omega) (by omega)]
  rw [Int.sub_mul, Int.mul_sub]
  congr 1
  omega
theorem rsGood_val (s : List Int) (p q : Int) : Evt (fun k => spec_rsGood.f k s p q) (sig s && ratB p q) := by
  unfold spec_rsGood.f
  refine Evt.bind (wdSignal_val s) ?_
  by_cases h : sig s = true
  · refine Evt.pos h ((Evt.const ?_)); rw [rsRatio_val, h]; simp
  · refine Evt.neg h ((Evt.ret _).eq ?_); simp at h; rw [h]; rfl
theorem hold_loop (s : List Int) (p q : Int) (hs : sig s = true) (h : Ratio p q) : ∀ (d i : Nat) (out : List Int), i + d = (lenA s.length p q).toNat → out.length = i →
    Evt (fun k => spec_HoldSamples.l0 k s p q out i) (told (out ++ ((List.range (lenA s.length p q).toNat).drop i).map (fun i : Nat => rd s ((i : Int) * q / p))))
  | 0, i, out, hi, ho => by
    have hl := (sig_iff.mp hs).1
    have hL := lenA_rng (n := s.length) (by omega) (by omega) h
    refine Evt.step (h := fun k => (spec_wdIf.f k out).bind fun bt210 => some (bt210.1, bt210.2)) (fun k => ?_) (Evt.bind (wdIf_val out) ((Evt.ret _).eq ?_))
    · simp only [spec_HoldSamples.l0]; rw [rsLength_val (by omega) (by omega) h]; simp only [Option.bind_some]; rw [if_neg (by omega)]
    · rw [List.drop_of_length_le (by simp; omega)]; simp
  | d + 1, i, out, hi, ho => by
    have hl := (sig_iff.mp hs).1
    have hL := lenA_rng (n := s.length) (by omega) (by omega) h
    have ih := hold_loop s p q hs h d (i + 1) (out ++ [rd s ((i : Int) * q / p)]) (by omega) (by simp; omega)
    rw [out_snoc _ i (fun i : Nat => rd s ((i : Int) * q / p)) (by omega)] at ih
    obtain ⟨e1, e2, a, _⟩ := src_body (i := i) (by omega) (by omega) h
    have h1 := src_lt (n := s.length) (i := i) (by omega) (by omega) (by omega) h
    refine Evt.step (fun k => ?_) ih
    simp only [spec_HoldSamples.l0]
    rw [rsLength_val (by omega) (by omega) h]; simp only [Option.bind_some]
    rw [if_pos (by omega), if_neg (by have := h.1; omega), e1, if_pos a, if_pos h1, if_pos (by omega), w64 (by omega) (by omega)]; rfl
theorem good_split {s : List Int} {p q : Int} : (sig s && ratB p q) = true ↔ sig s = true ∧ ratB p q = true := by simp
theorem hold_spec (s : List Int) (p q : Int) : Evt (fun k => spec_HoldSamples.f k s p q) (resampled s p q (fun i => rd s ((i : Int) * q / p))) := by
  unfold spec_HoldSamples.f resampled
  refine Evt.bind (rsGood_val s p q) ?_
  by_cases h : (sig s && ratB p q) = true
  · obtain ⟨hs, hr⟩ := good_split.mp h
    refine Evt.pos h ((hold_loop s p q hs (ratB_iff.mp hr) (lenA s.length p q).toNat 0 [] (by omega) rfl).eq ?_)
    rw [if_pos ⟨hs, hr⟩]; simp [outOf]
  · exact Evt.neg h ((Evt.ret _).eq (by rw [if_neg (fun e => h (good_split.mpr e))]))
def nearG (s : List Int) (p q : Int) (i : Nat) : Int := if 2 * ((i : Int) * q % p) < p ∨ (i : Int) * q / p = (s.length : Int) - 1 then rd s ((i : Int) * q / p) else rd s ((i : Int) * q / p + 1)
theorem near_loop (s : List Int) (p q : Int) (hs : sig s = true) (h : Ratio p q) : ∀ (d i : Nat) (out : List Int), i + d = (lenA s.length p q).toNat → out.length = i →
    Evt (fun k => spec_NearSamples.l0 k s p q out i) (told (out ++ ((List.range (lenA s.length p q).toNat).drop i).map (nearG s p q)))
  | 0, i, out, hi, ho => by
    have hl := (sig_iff.mp hs).1
    have hL := lenA_rng (n := s.length) (by omega) (by omega) h
    refine Evt.step (h := fun k => (spec_wdIf.f k out).bind fun bt210 => some (bt210.1, bt210.2)) (fun k => ?_) (Evt.bind (wdIf_val out) ((Evt.ret _).eq ?_))
    · simp only [spec_NearSamples.l0]; rw [rsLength_val (by omega) (by omega) h]; simp only [Option.bind_some]; rw [if_neg (by omega)]
    · rw [List.drop_of_length_le (by simp; omega)]; simp
  | d + 1, i, out, hi, ho => by
    have hl := (sig_iff.mp hs).1
    have hL := lenA_rng (n := s.length) (by omega) (by omega) h
    have ih := near_loop s p q hs h d (i + 1) (out ++ [nearG s p q i]) (by omega) (by simp; omega)
    rw [out_snoc _ i (nearG s p q) (by omega)] at ih
    obtain ⟨e1, e2, a, a2, b, b2⟩ := src_body (i := i) (by omega) (by omega) h
    have h1 := src_lt (n := s.length) (i := i) (by omega) (by omega) (by omega) h
    have h3 := h.1
    refine Evt.step (fun k => ?_) ih
    simp only [spec_NearSamples.l0]
    rw [rsLength_val (by omega) (by omega) h]; simp only [Option.bind_some]
    rw [if_pos (by omega), if_neg (by omega), e1, e2, w64 (x := 2 * ((i : Int) * q % p)) (by omega) (by omega), w64 (x := (i : Int) * q / p + 1) (by omega) (by omega), w64 (x := (i : Int) + 1) (by omega) (by omega)]
    unfold nearG
    by_cases c1 : 2 * ((i : Int) * q % p) ≥ p
    · rw [if_pos c1]
      by_cases c2 : (i : Int) * q / p + 1 < (s.length : Int)
      · rw [if_pos c2, if_pos (by omega), if_pos (by omega), if_neg (by omega)]; rfl
      · rw [if_neg c2, if_pos a, if_pos h1, if_pos (by omega), if_pos (by omega)]; rfl
    · rw [if_neg c1, if_pos a, if_pos h1, if_pos (by omega), if_pos (by omega)]; rfl
theorem near_spec (s : List Int) (p q : Int) : Evt (fun k => spec_NearSamples.f k s p q) (resampled s p q (nearG s p q)) := by
  unfold spec_NearSamples.f resampled
  refine Evt.bind (rsGood_val s p q) ?_
  by_cases h : (sig s && ratB p q) = true
  · obtain ⟨hs, hr⟩ := good_split.mp h
    refine Evt.pos h ((near_loop s p q hs (ratB_iff.mp hr) (lenA s.length p q).toNat 0 [] (by omega) rfl).eq ?_)
    rw [if_pos ⟨hs, hr⟩]; simp [outOf]
  · exact Evt.neg h ((Evt.ret _).eq (by rw [if_neg (fun e => h (good_split.mpr e))]))
def lineG (s : List Int) (p q : Int) (i : Nat) : Int := lineAt s p ((i : Int) * q / p) ((i : Int) * q % p)
theorem line_loop (s : List Int) (p q : Int) (hs : sig s = true) (h : Ratio p q) : ∀ (d i : Nat) (out : List Int), i + d = (lenA s.length p q).toNat → out.length = i →
    Evt (fun k => spec_rsLine.l0 k s p q out i) (out ++ ((List.range (lenA s.length p q).toNat).drop i).map (lineG s p q))
  | 0, i, out, hi, ho => by
    have hl := (sig_iff.mp hs).1
    have hL := lenA_rng (n := s.length) (by omega) (by omega) h
    refine Evt.step (h := fun k => some out) (fun k => ?_) ((Evt.ret _).eq ?_)
    · simp only [spec_rsLine.l0]; rw [rsLength_val (by omega) (by omega) h]; simp only [Option.bind_some]; rw [if_neg (by omega)]
    · rw [List.drop_of_length_le (by simp; omega)]; simp
  | d + 1, i, out, hi, ho => by
    have hl := (sig_iff.mp hs).1
    have hL := lenA_rng (n := s.length) (by omega) (by omega) h
    have ih := line_loop s p q hs h d (i + 1) (out ++ [lineG s p q i]) (by omega) (by simp; omega)
    rw [out_snoc _ i (lineG s p q) (by omega)] at ih
    obtain ⟨e1, e2, a, a2, b, b2⟩ := src_body (i := i) (by omega) (by omega) h
    have h1 := src_lt (n := s.length) (i := i) (by omega) (by omega) (by omega) h
    have h3 := h.1
    refine Evt.step (fun k => ?_) ih
    simp only [spec_rsLine.l0]
    rw [rsLength_val (by omega) (by omega) h]; simp only [Option.bind_some]
    rw [if_pos (by omega), if_neg (by omega), e1, e2, w64 (x := (i : Int) * q / p + 1) (by omega) (by omega), w64 (x := (i : Int) + 1) (by omega) (by omega)]
    unfold lineG lineAt
    generalize (i : Int) * q / p = x at *
    generalize (i : Int) * q % p = y at *
    have u := sample_rng hs a h1
    have m1 := mul_rng (A := 8) (B := 100000) (a := p - y) (b := rd s x) (by omega) (by omega) (by omega) (by omega)
    have m2 := mul_rng (A := 8) (B := 100000) (a := y) (b := rd s x) (by omega) (by omega) (by omega) (by omega)
    rw [w64 (x := p - y) (by omega) (by omega), w64 (x := (p - y) * rd s x) (by omega) (by omega)]
    by_cases c : x + 1 < (s.length : Int)
    · have v := sample_rng hs (x := x + 1) (by omega) c
      have m3 := mul_rng (A := 8) (B := 100000) (a := y) (b := rd s (x + 1)) (by omega) (by omega) (by omega) (by omega)
      rw [if_pos c, if_pos a, if_pos h1, if_pos (by omega), if_pos (by omega), if_pos c, w64 (x := y * rd s (x + 1)) (by omega) (by omega), w64 (by omega) (by omega)]; rfl
    · rw [if_neg c, if_pos a, if_pos h1, if_pos (by omega), if_neg c, w64 (x := y * rd s x) (by omega) (by omega), w64 (by omega) (by omega)]; rfl
theorem line_spec (s : List Int) (p q : Int) : Evt (fun k => spec_LineSamples.f k s p q) (resampled s p q (lineG s p q)) := by
  unfold spec_LineSamples.f resampled
  refine Evt.bind (rsGood_val s p q) ?_
  by_cases h : (sig s && ratB p q) = true
  · obtain ⟨hs, hr⟩ := good_split.mp h
    refine Evt.pos h (Evt.bind (line_loop s p q hs (ratB_iff.mp hr) (lenA s.length p q).toNat 0 [] (by omega) rfl) (Evt.bind (wdIf_val _) ((Evt.ret _).eq ?_)))
    rw [if_pos ⟨hs, hr⟩]; simp [outOf]
  · exact Evt.neg h ((Evt.ret _).eq (by rw [if_neg (fun e => h (good_split.mpr e))]))
theorem lines_impl (s : List Int) (p : Int) : Evt (fun k => impl_LinesOfSame.f k s p) (resampled s p 1 (lineG s p 1)) := by
  unfold impl_LinesOfSame.f
  exact Evt.bind (line_impl s p 1) ((Evt.ret _).eq rfl)
theorem lines_spec (s : List Int) (p : Int) : Evt (fun k => spec_LinesOfSame.f k s p) (resampled s p 1 (lineG s p 1)) := by
  unfold spec_LinesOfSame.f resampled
  refine Evt.bind (rsGood_val s p 1) ?_
  by_cases h : (sig s && ratB p 1) = true
  · obtain ⟨hs, hr⟩ := good_split.mp h
    refine Evt.pos h (Evt.bind (line_loop s p 1 hs (ratB_iff.mp hr) (lenA s.length p 1).toNat 0 [] (by omega) rfl) (Evt.bind (wdIf_val _) ((Evt.ret _).eq ?_)))
    rw [if_pos ⟨hs, hr⟩]; simp [outOf]
  · exact Evt.neg h ((Evt.ret _).eq (by rw [if_neg (fun e => h (good_split.mpr e))]))
theorem LengthAfter_impl (n p q : Int) : impl_LengthAfter.f n p q = some (if inB n 0 64 = true ∧ ratB p q = true then (lenA n p q, true) else (0, false)) := by
  unfold impl_LengthAfter.f
  rw [in_val]; simp only [Option.bind_some]
  by_cases h : inB n 0 64 = true
  · rw [if_pos h, isRatio_val]; simp only [Option.bind_some]
    by_cases hr : ratB p q = true
    · rw [if_pos hr, lengthAfter_val (inB_iff.mp h).1 (inB_iff.mp h).2 (ratB_iff.mp hr), if_pos ⟨h, hr⟩]; rfl
    · rw [if_neg hr, if_neg (fun e => hr e.2)]
  · rw [if_neg h, if_neg (fun e => h e.1)]
theorem LengthAfter_spec (n p q : Int) : spec_LengthAfter.f n p q = some (if inB n 0 64 = true ∧ ratB p q = true then (lenA n p q, true) else (0, false)) := by
  unfold spec_LengthAfter.f
  rw [l1In_val]; simp only [Option.bind_some]
  by_cases h : inB n 0 64 = true
  · rw [if_pos h, rsRatio_val]; simp only [Option.bind_some]
    by_cases hr : ratB p q = true
    · rw [if_pos hr, rsLength_val (inB_iff.mp h).1 (inB_iff.mp h).2 (ratB_iff.mp hr), if_pos ⟨h, hr⟩]; rfl
    · rw [if_neg hr, if_neg (fun e => hr e.2)]
  · rw [if_neg h, if_neg (fun e => h e.1)]
theorem SourceOf_impl (i p q : Int) : impl_SourceOf.f i p q = some (if inB i 0 1000 = true ∧ ratB p q = true then (i * q / p, i * q % p, true) else (0, 0, false)) := by
  unfold impl_SourceOf.f
  rw [in_val]; simp only [Option.bind_some]
  by_cases h : inB i 0 1000 = true
  · rw [if_pos h, isRatio_val]; simp only [Option.bind_some]
    by_cases hr : ratB p q = true
    · obtain ⟨e1, e2, _⟩ := src_body (inB_iff.mp h).1 (by have := (inB_iff.mp h).2; omega) (ratB_iff.mp hr)
      rw [if_pos hr, if_neg (by have := (ratB_iff.mp hr).1; omega), if_pos ⟨h, hr⟩, e1, e2]
    · rw [if_neg hr, if_neg (fun e => hr e.2)]
  · rw [if_neg h, if_neg (fun e => h e.1)]
theorem SourceOf_spec (i p q : Int) : spec_SourceOf.f i p q = some (if inB i 0 1000 = true ∧ ratB p q = true then (i * q / p, i * q % p, true) else (0, 0, false)) := by
  unfold spec_SourceOf.f
  rw [l1In_val]; simp only [Option.bind_some]
  by_cases h : inB i 0 1000 = true
  · rw [if_pos h, rsRatio_val]; simp only [Option.bind_some]
    by_cases hr : ratB p q = true
    · obtain ⟨e1, e2, _⟩ := src_body (inB_iff.mp h).1 (by have := (inB_iff.mp h).2; omega) (ratB_iff.mp hr)
      rw [if_pos hr, if_neg (by have := (ratB_iff.mp hr).1; omega), if_pos ⟨h, hr⟩, e1, e2]
    · rw [if_neg hr, if_neg (fun e => hr e.2)]
  · rw [if_neg h, if_neg (fun e => h e.1)]

/-! ### the greatest common divisor -/
theorem gcd_loop : ∀ (n : Nat) (x y : Int), y.toNat ≤ n → 0 ≤ x → 0 ≤ y → Evt (fun k => impl_gcd.l0 k x y) ((Nat.gcd x.toNat y.toNat : Nat) : Int)
  | 0, x, y, hn, h0, h1 => by
    obtain rfl : y = 0 := by omega
    refine Evt.step (h := fun _ => some x) (fun k => ?_) ((Evt.ret _).eq (by simp; omega))
    simp only [impl_gcd.l0, if_true]
  | n + 1, x, y, hn, h0, h1 => by
    by_cases c : y = 0
    · subst c
      refine Evt.step (h := fun _ => some x) (fun k => ?_) ((Evt.ret _).eq (by simp; omega))
      simp only [impl_gcd.l0, if_true]
    · have e : Int.tmod x y = x % y := tmod_nn h0
      have a := Int.emod_nonneg x c
      have b := Int.emod_lt_of_pos x (by omega : 0 < y)
      have ih := gcd_loop n y (x % y) (by omega) h1 a
      refine Evt.step (fun k => ?_) (ih.eq ?_)
      · simp only [impl_gcd.l0]; rw [if_neg c, e]
      · have e2 : (x % y).toNat = x.toNat % y.toNat := by
          rw [Int.toNat_emod h0 h1]
        rw [e2, Nat.gcd_comm y.toNat, ← Nat.gcd_rec, Nat.gcd_comm]
theorem size_val {x : Int} (h0 : 0 ≤ x) (h1 : x ≤ 1000000000000) : impl_size.f x = some x := by
  unfold impl_size.f mx; rw [w64 (by omega) (by omega)]
  by_cases c : x < -x
  · omega
  · rw [if_neg c]
theorem gcd_val {x y : Int} (h0 : 0 ≤ x) (h1 : x ≤ 1000000000000) (h2 : 0 ≤ y) (h3 : y ≤ 1000000000000) : Evt (fun k => impl_gcd.f k x y) ((Nat.gcd x.toNat y.toNat : Nat) : Int) := by
  unfold impl_gcd.f
  exact Evt.bindp (size_val h0 h1) (Evt.bindp (size_val h2 h3) (gcd_loop _ x y (Nat.le_refl _) h0 h2))
theorem common_loop : ∀ (n : Nat) (x y : Int), y.toNat ≤ n → 0 ≤ x → 0 ≤ y → Evt (fun k => laws_iCommon.l0 k x y) ((Nat.gcd x.toNat y.toNat : Nat) : Int)
  | 0, x, y, hn, h0, h1 => by
    obtain rfl : y = 0 := by omega
    refine Evt.step (h := fun _ => some x) (fun k => ?_) ((Evt.ret _).eq (by simp; omega))
    simp only [laws_iCommon.l0]; rw [if_neg (by omega)]
  | n + 1, x, y, hn, h0, h1 => by
    by_cases c : y = 0
    · subst c
      refine Evt.step (h := fun _ => some x) (fun k => ?_) ((Evt.ret _).eq (by simp; omega))
      simp only [laws_iCommon.l0]; rw [if_neg (by omega)]
    · have e : Int.tmod x y = x % y := tmod_nn h0
      have a := Int.emod_nonneg x c
      have b := Int.emod_lt_of_pos x (by omega : 0 < y)
      have ih := common_loop n y (x % y) (by omega) h1 a
      refine Evt.step (fun k => ?_) (ih.eq ?_)
      · simp only [laws_iCommon.l0]; rw [if_pos (by omega), if_neg c, e]
      · rw [Int.toNat_emod h0 h1, Nat.gcd_comm y.toNat, ← Nat.gcd_rec, Nat.gcd_comm]
theorem common_val {x y : Int} (h0 : 0 ≤ x) (h2 : 0 ≤ y) : Evt (fun k => laws_iCommon.f k x y) ((Nat.gcd x.toNat y.toNat : Nat) : Int) := by
  unfold laws_iCommon.f
  exact common_loop _ x y (Nat.le_refl _) h0 h2
def leastR (p q : Int) : Int × Int × Bool := if ratB p q = true then (p / (Nat.gcd p.toNat q.toNat : Nat), q / (Nat.gcd p.toNat q.toNat : Nat), true) else (0, 0, false)
theorem gcd_pos {p q : Int} (h : Ratio p q) : 0 < ((Nat.gcd p.toNat q.toNat : Nat) : Int) := by
  have := Nat.gcd_pos_of_pos_left q.toNat (by have := h.1; omega : 0 < p.toNat); omega
theorem div_small {p g : Int} (h0 : 1 ≤ p) (h1 : p ≤ 8) (hg : 0 < g) : wrap64 (Int.tdiv p g) = p / g := by
  have := Int.ediv_le_self (a := p) g (by omega)
  have := Int.ediv_nonneg (a := p) (b := g) (by omega) (by omega)
  rw [tdiv_nn (by omega), w64 (by omega) (by omega)]
theorem LeastRatio_impl (p q : Int) : Evt (fun k => impl_LeastRatio.f k p q) (leastR p q) := by
  unfold impl_LeastRatio.f leastR
  refine Evt.bindp (isRatio_val p q) ?_
  by_cases h : ratB p q = true
  · have hR := ratB_iff.mp h
    obtain ⟨⟨a, b⟩, c, d⟩ := id hR
    have hg := gcd_pos hR
    refine Evt.pos h (Evt.bind (gcd_val (by omega) (by omega) (by omega) (by omega)) (Evt.neg (by omega) ((Evt.ret _).eq ?_)))
    rw [if_pos h, div_small a b hg, div_small c d hg]
  · exact Evt.neg h ((Evt.ret _).eq (by rw [if_neg h]))
theorem least_loop (p q : Int) (hR : Ratio p q) : ∀ (n : Nat) (x y : Int), y.toNat ≤ n → 0 ≤ x → 0 ≤ y → Nat.gcd x.toNat y.toNat = Nat.gcd p.toNat q.toNat →
    Evt (fun k => spec_LeastRatio.l0 k p q x y) (p / (Nat.gcd p.toNat q.toNat : Nat), q / (Nat.gcd p.toNat q.toNat : Nat), true)
  | n, x, y, hn, h0, h1, hg => by
    have hp := gcd_pos hR
    obtain ⟨⟨a, b⟩, c, d⟩ := id hR
    by_cases cy : y = 0
    · subst cy
      simp at hg
      refine Evt.step (h := fun _ => some _) (fun k => ?_) (Evt.ret _)
      simp only [spec_LeastRatio.l0]
      rw [if_neg (by omega), if_neg (by omega)]
      have hx : x = ((Nat.gcd p.toNat q.toNat : Nat) : Int) := by omega
      rw [← hx] at hp ⊢
      rw [div_small a b hp, div_small c d hp]
    · have e : Int.tmod x y = x % y := tmod_nn h0
      have a' := Int.emod_nonneg x cy
      have b' := Int.emod_lt_of_pos x (by omega : 0 < y)
      cases n with
      | zero => omega
      | succ n =>
        have ih := least_loop p q hR n y (x % y) (by omega) h1 a' (by rw [Int.toNat_emod h0 h1, Nat.gcd_comm y.toNat, ← Nat.gcd_rec, Nat.gcd_comm]; exact hg)
        refine Evt.step (fun k => ?_) ih
        simp only [spec_LeastRatio.l0]; rw [if_pos (by omega), if_neg cy, e]
theorem LeastRatio_spec (p q : Int) : Evt (fun k => spec_LeastRatio.f k p q) (leastR p q) := by
  unfold spec_LeastRatio.f leastR
  refine Evt.bindp (rsRatio_val p q) ?_
  by_cases h : ratB p q = true
  · have hR := ratB_iff.mp h
    rw [if_pos h]
    exact Evt.pos h (least_loop p q hR _ p q (Nat.le_refl _) (by have := hR.1; omega) (by have := hR.2; omega) rfl)
  · exact Evt.neg h ((Evt.ret _).eq (by rw [if_neg h]))

/-! ### the draws of this statement -/
theorem wf_bytes {l : List Int} (h : ∀ x ∈ l, (Lit.int .u8 x).wf = true) : Bytes l := fun x hx => by
  have := h x hx
  simp [Lit.wf, IntKind.min, IntKind.max, IntKind.bits, IntKind.signed] at this
  omega
def Small (x : Int) : Prop := -1000000 ≤ x ∧ x ≤ 1000000
theorem ratio_some (s : List Int) (p seed : Int) (hs : Bytes s) (h0 : 0 ≤ p) (h1 : p ≤ 100000) :
    ∃ a b p' seed', spec_l1Cur_ratio.f s p seed = some (a, b, p', seed') ∧ (0 ≤ a ∧ a ≤ 9) ∧ (0 ≤ b ∧ b ≤ 9) ∧ p ≤ p' ∧ p' ≤ p + 6 := by
  unfold spec_l1Cur_ratio.f
  obtain ⟨b, p1, s1, e1, g1, g2⟩ := one_some s p seed 12 hs h0 (by omega) (by omega)
  rw [e1]; simp only [Option.bind_some]
  cases b with
  | true =>
    obtain ⟨x, p2, s2, e2, m2, g3, g4⟩ := among_some s p1 s1 [0, 1, 8, 9] hs (by omega) (by omega) (by simp) (by simp)
    obtain ⟨y, p3, s3, e3, m3, g5, g6⟩ := among_some s p2 s2 [0, 1, 8, 9] hs (by omega) (by omega) (by simp) (by simp)
    rw [if_pos rfl, e2]; simp only [Option.bind_some]; rw [e3]; simp only [Option.bind_some]
    refine ⟨_, _, _, _, rfl, ?_, ?_, by omega, by omega⟩
    · simp at m2; omega
    · simp at m3; omega
  | false =>
    obtain ⟨x, p2, s2, e2, m2, m2', g3, g4⟩ := pick_some s p1 s1 4 hs (by omega) (by omega) (by omega)
    obtain ⟨y, p3, s3, e3, m3, m3', g5, g6⟩ := pick_some s p2 s2 4 hs (by omega) (by omega) (by omega)
    rw [if_neg (by simp), e2]; simp only [Option.bind_some]; rw [e3]; simp only [Option.bind_some]
    rw [w64 (x := 1 + x) (by omega) (by omega), w64 (x := 1 + y) (by omega) (by omega)]
    exact ⟨_, _, _, _, rfl, by omega, by omega, by omega, by omega⟩
theorem draw_hold (s : List Int) (hs : Bytes s) : ∃ l p q, Evt (fun k => spec_DrawHoldSamples.f k s) (l, p, q) ∧ Fit l := by
  obtain ⟨a, b, p1, s1, e1, _, _, g1, g2⟩ := ratio_some s 0 0 hs (by omega) (by omega)
  obtain ⟨r, p2, s2, e2, hf, _⟩ := signal_some s p1 s1 12 50 hs (by omega) (by omega) (by omega) (by omega) (by omega) (by omega)
  exact ⟨r, a, b, Evt.bindp e1 (Evt.bind e2 (Evt.ret _)), hf⟩
theorem draw_lines (s : List Int) (hs : Bytes s) : ∃ l p, Evt (fun k => spec_DrawLinesOfSame.f k s) (l, p) ∧ Fit l := by
  obtain ⟨a, b, p1, s1, e1, _, _, g1, g2⟩ := ratio_some s 0 0 hs (by omega) (by omega)
  obtain ⟨r, p2, s2, e2, hf, _⟩ := signal_some s p1 s1 10 50 hs (by omega) (by omega) (by omega) (by omega) (by omega) (by omega)
  exact ⟨r, a, Evt.bindp e1 (Evt.bind e2 (Evt.ret _)), hf⟩
theorem draw_length (s : List Int) (hs : Bytes s) : ∃ n p q, spec_DrawLengthAfter.f s = some (n, p, q) := by
  obtain ⟨a, b, p1, s1, e1, _, _, g1, g2⟩ := ratio_some s 0 0 hs (by omega) (by omega)
  obtain ⟨c, p2, s2, e2, g3, g4⟩ := one_some s p1 s1 10 hs (by omega) (by omega) (by omega)
  unfold spec_DrawLengthAfter.f
  rw [e1]; simp only [Option.bind_some]; rw [e2]; simp only [Option.bind_some]
  cases c with
  | true =>
    obtain ⟨x, p3, s3, e3, m3, _⟩ := among_some s p2 s2 [-1, 0, 64, 65] hs (by omega) (by omega) (by simp) (by simp)
    rw [if_pos rfl, e3]; exact ⟨_, _, _, rfl⟩
  | false =>
    obtain ⟨x, p3, s3, e3, _⟩ := pick_some s p2 s2 20 hs (by omega) (by omega) (by omega)
    rw [if_neg (by simp), e3]; exact ⟨_, _, _, rfl⟩
theorem draw_source (s : List Int) (hs : Bytes s) : ∃ n p q, spec_DrawSourceOf.f s = some (n, p, q) := by
  obtain ⟨a, b, p1, s1, e1, _, _, g1, g2⟩ := ratio_some s 0 0 hs (by omega) (by omega)
  obtain ⟨c, p2, s2, e2, g3, g4⟩ := one_some s p1 s1 10 hs (by omega) (by omega) (by omega)
  unfold spec_DrawSourceOf.f
  rw [e1]; simp only [Option.bind_some]; rw [e2]; simp only [Option.bind_some]
  cases c with
  | true =>
    obtain ⟨x, p3, s3, e3, m3, _⟩ := among_some s p2 s2 [-1, 0, 1000, 1001] hs (by omega) (by omega) (by simp) (by simp)
    rw [if_pos rfl, e3]; exact ⟨_, _, _, rfl⟩
  | false =>
    obtain ⟨x, p3, s3, e3, _⟩ := pick_some s p2 s2 40 hs (by omega) (by omega) (by omega)
    rw [if_neg (by simp), e3]; exact ⟨_, _, _, rfl⟩
theorem draw_least (s : List Int) (hs : Bytes s) : ∃ p q, spec_DrawLeastRatio.f s = some (p, q) ∧ Small p ∧ Small q := by
  obtain ⟨c, p2, s2, e2, g3, g4⟩ := one_some s 0 0 4 hs (by omega) (by omega) (by omega)
  unfold spec_DrawLeastRatio.f
  rw [e2]; simp only [Option.bind_some]
  cases c with
  | true =>
    obtain ⟨a, b, p1, s1, e1, h1, h2, _⟩ := ratio_some s p2 s2 hs (by omega) (by omega)
    rw [if_pos rfl, e1]; exact ⟨_, _, rfl, ⟨by show _ ≤ a; omega, by show a ≤ _; omega⟩, ⟨by show _ ≤ b; omega, by show b ≤ _; omega⟩⟩
  | false =>
    obtain ⟨x, p3, s3, e3, a, b, _⟩ := pick_some s p2 s2 8 hs (by omega) (by omega) (by omega)
    obtain ⟨y, p4, s4, e4, c, d, _⟩ := pick_some s p3 s3 8 hs (by omega) (by omega) (by omega)
    rw [if_neg (by simp), e3]; simp only [Option.bind_some]; rw [e4]; simp only [Option.bind_some]
    rw [w64 (x := 1 + x) (by omega) (by omega), w64 (x := 1 + y) (by omega) (by omega)]
    exact ⟨_, _, rfl, ⟨by omega, by omega⟩, ⟨by omega, by omega⟩⟩
end Go.Proofs.Ytjbpflfihdabhaa.Pure
