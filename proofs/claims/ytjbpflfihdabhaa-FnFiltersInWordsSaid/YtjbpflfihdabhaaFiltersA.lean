/- What the functions that the statement on filters in words reaches compute, in plain Lean. No condition. -/
import Derived.Test.YtjbpflfihdabhaaPFnFiltersInWordsx1
import Derived.Test.YtjbpflfihdabhaaPFnFiltersInWordsx2
import Derived.Test.YtjbpflfihdabhaaPFnFiltersInWordsx3
import Derived.Test.YtjbpflfihdabhaaPFnFiltersInWordsx4
import Derived.Test.YtjbpflfihdabhaaPFnFiltersInWordsx5
import Derived.Test.YtjbpflfihdabhaaPFnFiltersInWordsx6
import Derived.Test.YtjbpflfihdabhaaPFnFiltersInWordsx7
import Derived.Test.YtjbpflfihdabhaaPFnFiltersInWordsx8
import Derived.Test.YtjbpflfihdabhaaPFnFiltersInWordsx9
import Derived.Test.YtjbpflfihdabhaaPFnFiltersInWordsx10
import Derived.Test.YtjbpflfihdabhaaPFnFiltersInWordsx11
import Derived.Test.YtjbpflfihdabhaaPFnFiltersInWordsx12
import Derived.Test.YtjbpflfihdabhaaBase
import Derived.Laws.BitsLemmas
namespace Go.Proofs.Ytjbpflfihdabhaa.PureF
open Go.RowKit Go.Proofs.Ytjbpflfihdabhaa.PFnFiltersInWords Go.Proofs.YtjbpflfihdabhaaW.PrintWords Go.Proofs.YtjbpflfihdabhaaW.PrintLast Go.Proofs.YtjbpflfihdabhaaW.PrintMore Go.Proofs.Ytjbpflfihdabhaa.Base
set_option linter.unusedVariables false
set_option linter.unusedSimpArgs false

/-! ### what is drawn -/
def Bytes (s : List Int) : Prop := ∀ x ∈ s, 0 ≤ x ∧ x ≤ 255
theorem and255 (x : Int) (h0 : 0 ≤ x) (h1 : x < 18446744073709551616) : Go.bits .and .u64 x 255 = x % 256 :=
  bits_mask .u64 64 (by decide) (fun n h0 h1 => by simp [IntKind.wrap, IntKind.bits, IntKind.signed]; omega) 8 (by decide) x h0 h1
theorem u64_rng (x : Int) : 0 ≤ IntKind.u64.wrap x ∧ IntKind.u64.wrap x < 18446744073709551616 := by
  simp [IntKind.wrap, IntKind.bits, IntKind.signed]; omega
theorem next_some (s : List Int) (p seed : Int) (hs : Bytes s) (h0 : 0 ≤ p) (h1 : p ≤ 1000000) :
    ∃ b seed', spec_l1Cur_next.f s p seed = some (b, p + 1, seed') ∧ 0 ≤ b ∧ b ≤ 255 := by
  have hw : wrap64 (p + 1) = p + 1 := w64 (by omega) (by omega)
  have hx : ∀ y : Int, 0 ≤ wrap64 (Go.bits .and .u64 (IntKind.u64.wrap y / 1099511627776) 255) ∧ wrap64 (Go.bits .and .u64 (IntKind.u64.wrap y / 1099511627776) 255) ≤ 255 := fun y => by
    have := u64_rng y
    rw [and255 _ (by omega) (by omega), w64 (by omega) (by omega)]; omega
  unfold spec_l1Cur_next.f
  rw [hw]
  by_cases hp : p < (s.length : Int)
  · have hb := hs _ (rd_mem h0 hp)
    rw [if_pos hp, if_pos h0]
    by_cases hq : p + 1 ≤ (s.length : Int)
    · rw [if_pos hq]
      exact ⟨_, _, rfl, by rw [w64 (by omega) (by omega)]; exact hb.1, by rw [w64 (by omega) (by omega)]; exact hb.2⟩
    · omega
  · rw [if_neg hp, if_neg (by omega)]
    exact ⟨_, _, rfl, hx _⟩
theorem pick_some (s : List Int) (p seed n : Int) (hs : Bytes s) (h0 : 0 ≤ p) (h1 : p ≤ 900000) (hn : n ≤ 1000000) :
    ∃ x p' seed', spec_l1Cur_pick.f s p seed n = some (x, p', seed') ∧ 0 ≤ x ∧ x ≤ max 0 (n - 1) ∧ p ≤ p' ∧ p' ≤ p + 2 := by
  unfold spec_l1Cur_pick.f
  by_cases c : n ≤ 1
  · rw [if_pos c]
    exact ⟨_, _, _, rfl, by omega, by omega, by omega, by omega⟩
  · obtain ⟨b, sd, e, hb0, hb1⟩ := next_some s p seed hs h0 (by omega)
    rw [if_neg c, e]
    simp only [Option.bind_some]
    by_cases d : n > 200
    · obtain ⟨b', sd', e', hb0', hb1'⟩ := next_some s (p + 1) sd hs (by omega) (by omega)
      rw [if_pos d, e']
      simp only [Option.bind_some]
      rw [if_neg (by omega), w64 (x := b * 256) (by omega) (by omega), w64 (x := b * 256 + b') (by omega) (by omega), tmod_nn (by omega)]
      have := Int.emod_nonneg (b * 256 + b') (by omega : n ≠ 0)
      have := Int.emod_lt_of_pos (b * 256 + b') (by omega : 0 < n)
      exact ⟨_, _, _, rfl, by omega, by omega, by omega, by omega⟩
    · rw [if_neg d, if_neg (by omega), tmod_nn (by omega)]
      have := Int.emod_nonneg b (by omega : n ≠ 0)
      have := Int.emod_lt_of_pos b (by omega : 0 < n)
      exact ⟨_, _, _, rfl, by omega, by omega, by omega, by omega⟩
theorem one_some (s : List Int) (p seed n : Int) (hs : Bytes s) (h0 : 0 ≤ p) (h1 : p ≤ 900000) (hn : n ≤ 1000000) :
    ∃ b p' seed', spec_l1Cur_one.f s p seed n = some (b, p', seed') ∧ p ≤ p' ∧ p' ≤ p + 2 := by
  obtain ⟨x, p', sd, e, _, _, g1, g2⟩ := pick_some s p seed n hs h0 h1 hn
  unfold spec_l1Cur_one.f
  rw [e]
  exact ⟨_, _, _, rfl, g1, g2⟩
theorem among_some (s : List Int) (p seed : Int) (l : List Int) (hs : Bytes s) (h0 : 0 ≤ p) (h1 : p ≤ 900000) (hl : 0 < l.length) (hn : (l.length : Int) ≤ 1000000) :
    ∃ x p' seed', spec_l1Cur_among.f s p seed l = some (x, p', seed') ∧ x ∈ l ∧ p ≤ p' ∧ p' ≤ p + 2 := by
  obtain ⟨x, p', sd, e, a, b, g1, g2⟩ := pick_some s p seed l.length hs h0 h1 hn
  unfold spec_l1Cur_among.f
  rw [e]
  simp only [Option.bind_some]
  rw [if_pos a, if_pos (by omega)]
  exact ⟨_, _, _, rfl, rd_mem a (by omega), g1, g2⟩
/-- what a drawn list may hold: numbers that fit, and not many -/
def Fit (l : List Int) : Prop := l.length ≤ 200 ∧ ∀ x ∈ l, -4611686018427387904 ≤ x ∧ x ≤ 4611686018427387904
theorem Fit.snoc {l : List Int} (h : Fit l) {x : Int} (hl : l.length ≤ 199) (h0 : -4611686018427387904 ≤ x) (h1 : x ≤ 4611686018427387904) : Fit (l ++ [x]) :=
  ⟨by simp; omega, fun y hy => by
    rcases List.mem_append.mp hy with hy | hy
    · exact h.2 y hy
    · rw [List.mem_singleton] at hy; subst hy; exact ⟨h0, h1⟩⟩
theorem Fit.zeros (n : Nat) (h : n ≤ 200) : Fit (List.replicate n 0) :=
  ⟨by simpa using h, fun x hx => by rw [(List.mem_replicate.mp hx).2]; omega⟩
theorem signal_loop (s : List Int) (size : Int) (hs : Bytes s) (h2 : 0 ≤ size) (h3 : size ≤ 400000) : ∀ (d : Nat) (out : List Int) (p seed : Int),
    0 ≤ p → p + 4 * d + 10 ≤ 900000 → out.length + d ≤ 190 → Fit out →
    ∃ r p' seed', Evt (fun k => spec_l1Cur_signal.l0 k size out d s p seed) (r, p', seed') ∧ Fit r ∧ 0 ≤ p' ∧ p' ≤ p + 4 * d + 10
  | 0, out, p, seed, h0, h1, hl, hf => by
    have hsz : out.length < 17592186044416 := by omega
    obtain ⟨x, p1, s1, e1, a1, b1, g1, g2⟩ := pick_some s p seed 16 hs h0 (by omega) (by omega)
    by_cases c0 : x = 0
    · obtain ⟨y, p2, s2, e2, m2, g3, g4⟩ := among_some s p1 s1 [100000, -100000, 100001, 4611686018427387904] hs (by omega) (by omega) (by simp) (by simp)
      refine ⟨out ++ [y], p2, s2, Evt.step (h := fun _ => some (out ++ [y], p2, s2)) (fun k => ?_) (Evt.ret _), hf.snoc (by omega) ?_ ?_, by omega, by omega⟩
      · simp only [spec_l1Cur_signal.l0]
        rw [if_neg (by omega), e1]; simp only [Option.bind_some]
        rw [if_pos c0, e2]; simp only [Option.bind_some]
        rw [if_pos hsz]
      · simp at m2; rcases m2 with rfl | rfl | rfl | rfl <;> omega
      · simp at m2; rcases m2 with rfl | rfl | rfl | rfl <;> omega
    · by_cases c1 : x = 1
      · obtain ⟨y, p2, s2, e2, a2, b2, g3, g4⟩ := pick_some s p1 s1 2 hs (by omega) (by omega) (by omega)
        have hw : wrap64 (64 + y) = 64 + y := w64 (by omega) (by omega)
        refine ⟨List.replicate (64 + y).toNat 0, p2, s2, Evt.step (h := fun _ => some (List.replicate (64 + y).toNat 0, p2, s2)) (fun k => ?_) (Evt.ret _), Fit.zeros _ (by omega), by omega, by omega⟩
        simp only [spec_l1Cur_signal.l0]
        rw [if_neg (by omega), e1]; simp only [Option.bind_some]
        rw [if_neg c0, if_pos c1, e2]; simp only [Option.bind_some]
        rw [hw, if_pos (by omega), if_pos (by omega)]
      · refine ⟨out, p1, s1, Evt.step (h := fun _ => some (out, p1, s1)) (fun k => ?_) (Evt.ret _), hf, by omega, by omega⟩
        simp only [spec_l1Cur_signal.l0]
        rw [if_neg (by omega), e1]; simp only [Option.bind_some]
        rw [if_neg c0, if_neg c1]
  | d + 1, out, p, seed, h0, h1, hl, hf => by
    have hsz : out.length < 17592186044416 := by omega
    have hd : wrap64 (((d + 1 : Nat) : Int) - 1) = (d : Int) := by rw [w64 (by omega) (by omega)]; omega
    obtain ⟨b, p1, s1, e1, g1, g2⟩ := one_some s p seed 4 hs h0 (by omega) (by omega)
    cases b with
    | true =>
      obtain ⟨r, p', sd, hr, hf', q0, q1⟩ := signal_loop s size hs h2 h3 d (out ++ [0]) p1 s1 (by omega) (by omega) (by simp; omega) (hf.snoc (by omega) (by omega) (by omega))
      refine ⟨r, p', sd, Evt.step (fun k => ?_) hr, hf', q0, by omega⟩
      simp only [spec_l1Cur_signal.l0]
      rw [if_pos (by omega), e1]; simp only [Option.bind_some, if_true]
      rw [if_pos hsz, hd]
    | false =>
      have hw : wrap64 (wrap64 (2 * size) + 1) = 2 * size + 1 := by rw [w64 (x := 2 * size) (by omega) (by omega), w64 (by omega) (by omega)]
      obtain ⟨y, p2, s2, e2, a2, b2, g3, g4⟩ := pick_some s p1 s1 (2 * size + 1) hs (by omega) (by omega) (by omega)
      have hy : wrap64 (y - size) = y - size := w64 (by omega) (by omega)
      obtain ⟨r, p', sd, hr, hf', q0, q1⟩ := signal_loop s size hs h2 h3 d (out ++ [y - size]) p2 s2 (by omega) (by omega) (by simp; omega) (hf.snoc (by omega) (by omega) (by omega))
      refine ⟨r, p', sd, Evt.step (fun k => ?_) hr, hf', q0, by omega⟩
      simp only [spec_l1Cur_signal.l0]
      rw [if_pos (by omega), e1]; simp only [Option.bind_some]
      rw [if_neg (by simp), hw, e2]; simp only [Option.bind_some]
      rw [if_pos hsz, hd, hy]
theorem signal_some (s : List Int) (p seed most size : Int) (hs : Bytes s) (h0 : 0 ≤ p) (h1 : p ≤ 100000) (h2 : 0 ≤ most) (h3 : most ≤ 180) (h4 : 0 ≤ size) (h5 : size ≤ 400000) :
    ∃ r p' seed', Evt (fun k => spec_l1Cur_signal.f k s p seed most size) (r, p', seed') ∧ Fit r ∧ 0 ≤ p' ∧ p' ≤ p + 1000 := by
  obtain ⟨x, p1, s1, e1, a1, b1, g1, g2⟩ := pick_some s p seed (most + 1) hs h0 (by omega) (by omega)
  obtain ⟨r, p', sd, hr, hf, q0, q1⟩ := signal_loop s size hs h4 h5 x.toNat [] p1 s1 (by omega) (by omega) (by simp; omega) ⟨by simp, by simp⟩
  refine ⟨r, p', sd, ?_, hf, q0, by omega⟩
  unfold spec_l1Cur_signal.f
  refine Evt.bindp (by rw [w64 (by omega) (by omega)]; exact e1) ?_
  rw [Int.toNat_of_nonneg a1] at hr
  exact hr

/-! ### tests -/
def inB (a lo hi : Int) : Bool := decide (lo ≤ a) && decide (a ≤ hi)
theorem inB_iff {a lo hi : Int} : inB a lo hi = true ↔ lo ≤ a ∧ a ≤ hi := by simp [inB]
theorem in_val (a lo hi : Int) : impl_in.f a lo hi = some (inB a lo hi) := by
  unfold impl_in.f inB; by_cases h : lo ≤ a <;> simp [h]
theorem l1In_val (a lo hi : Int) : spec_l1In.f a lo hi = some (inB a lo hi) := by
  unfold spec_l1In.f inB; by_cases h : lo ≤ a <;> simp [h]
def sig (l : List Int) : Bool := decide (l.length ≤ 64) && l.all (fun x => decide (-100000 ≤ x) && decide (x ≤ 100000))
theorem sig_iff {l : List Int} : sig l = true ↔ l.length ≤ 64 ∧ ∀ x ∈ l, -100000 ≤ x ∧ x ≤ 100000 := by simp [sig]
theorem isSignal_val (l : List Int) : impl_isSignal.f l = some (sig l) := rfl
theorem l1All_loop (lo hi : Int) (l : List Int) (hb : l.length ≤ 1000000) : ∀ (d i : Nat), i + d = l.length →
    Evt (fun k => spec_l1All.l0 k lo hi l l.length i) ((l.drop i).all (fun x => inB x lo hi))
  | 0, i, h => by
    refine Evt.step (h := fun _ => some true) (fun k => ?_) ((Evt.ret _).eq (by rw [List.drop_of_length_le (by omega)]; rfl))
    simp only [spec_l1All.l0]; rw [if_neg (by omega)]
  | d + 1, i, h => by
    have ih := l1All_loop lo hi l hb d (i + 1) (by omega)
    have e : (l.drop i).all (fun x => inB x lo hi) = (inB (rd l i) lo hi && (l.drop (i + 1)).all (fun x => inB x lo hi)) := by rw [drop_rd l i (by omega), List.all_cons]
    rw [e]
    cases hx : inB (rd l i) lo hi with
    | true =>
      refine Evt.step (fun k => ?_) (ih.eq (by simp))
      simp only [spec_l1All.l0]
      rw [if_pos (by omega), if_pos (by omega), if_pos (by omega), l1In_val, hx]; simp only [Option.bind_some, if_true]
      rw [w64 (by omega) (by omega)]; rfl
    | false =>
      refine Evt.step (h := fun _ => some false) (fun k => ?_) ((Evt.ret _).eq (by simp))
      simp only [spec_l1All.l0]
      rw [if_pos (by omega), if_pos (by omega), if_pos (by omega), l1In_val, hx]; simp only [Option.bind_some]
      rw [if_neg (by simp)]
theorem l1All_val (l : List Int) (lo hi : Int) (hb : l.length ≤ 1000000) : Evt (fun k => spec_l1All.f k l lo hi) (l.all (fun x => inB x lo hi)) :=
  (l1All_loop lo hi l hb l.length 0 (by omega)).eq (by simp)
theorem wdSignal_val (l : List Int) : Evt (fun k => spec_wdSignal.f k l) (sig l) := by
  unfold spec_wdSignal.f sig
  by_cases h : l.length ≤ 64
  · refine Evt.pos (by omega) (Evt.bind (l1All_val l _ _ (by omega)) ((Evt.ret _).eq ?_))
    simp [h]; rfl
  · refine Evt.neg (by omega) ((Evt.ret _).eq ?_)
    simp [h]
def told (l : List Int) : List Int × Bool := if sig l = true then (l, true) else ([], false)
theorem told_val (l : List Int) : impl_told.f l = some (told l) := by
  unfold impl_told.f told; rw [isSignal_val]; simp only [Option.bind_some]; split <;> rfl
theorem iSame_loop (a b : List Int) (hl : a.length = b.length) (hb : a.length ≤ 1000000) : ∀ (d i : Nat), i + d = a.length →
    Evt (fun k => laws_iSame.l0 k a b a.length i) (decide (a.drop i = b.drop i))
  | 0, i, h => by
    refine Evt.step (h := fun _ => some true) (fun k => ?_) ((Evt.ret _).eq (by rw [List.drop_of_length_le (by omega), List.drop_of_length_le (by omega)]; rfl))
    simp only [laws_iSame.l0]; rw [if_neg (by omega)]
  | d + 1, i, h => by
    have ih := iSame_loop a b hl hb d (i + 1) (by omega)
    rw [drop_rd a i (by omega), drop_rd b i (by omega)]
    by_cases hx : rd a i = rd b i
    · refine Evt.step (fun k => ?_) (ih.eq (by simp [hx]))
      simp only [laws_iSame.l0]
      rw [if_pos (by omega), if_pos (by omega), if_pos (by omega), if_pos (by omega), if_pos hx, w64 (by omega) (by omega)]; rfl
    · refine Evt.step (h := fun _ => some false) (fun k => ?_) ((Evt.ret _).eq (by simp [hx]))
      simp only [laws_iSame.l0]
      rw [if_pos (by omega), if_pos (by omega), if_pos (by omega), if_pos (by omega), if_neg hx]
theorem iSame_val (a b : List Int) (hb : a.length ≤ 1000000) : Evt (fun k => laws_iSame.f k a b) (decide (a = b)) := by
  unfold laws_iSame.f
  by_cases h : a.length = b.length
  · exact Evt.pos (by omega) ((iSame_loop a b h hb a.length 0 (by omega)).eq (by simp))
  · exact Evt.neg (by omega) ((Evt.ret _).eq (by symm; exact decide_eq_false (fun e => h (by rw [e]))))
theorem iSame_same (a : List Int) (hb : a.length ≤ 1000000) : Evt (fun k => laws_iSame.f k a a) true := (iSame_val a a hb).eq (by simp)



/-! ### words -/
theorem shl1 {y : Int} (h0 : 0 ≤ y) (h1 : y ≤ 40) : shl .i64 1 y = 2 ^ y.toNat := by
  have hp : (2 : Int) ^ y.toNat ≤ 1099511627776 := by
    have h2 : (2 : Nat) ^ y.toNat ≤ 1099511627776 := Nat.le_trans (Nat.pow_le_pow_right (n := 2) (by omega) (by omega : y.toNat ≤ 40)) (by decide)
    have e : (((2 : Nat) ^ y.toNat : Nat) : Int) = (2 : Int) ^ y.toNat := Int.natCast_pow 2 _
    rw [← e]; exact Int.ofNat_le.mpr h2
  have hq : 0 < (2 : Int) ^ y.toNat := Int.pow_pos (by omega)
  have hb64 : IntKind.i64.bits = 64 := rfl
  have hm : min y.toNat IntKind.i64.bits = y.toNat := Nat.min_eq_left (by rw [hb64]; omega)
  unfold shl
  rw [hm, i64_w, Int.one_mul]
  exact w64 (by omega) (by omega)
def WordB (b : Int) : Prop := 2 ≤ b ∧ b ≤ 16
/-- half of a word's numbers -/
def Hf (b : Int) : Int := 2 ^ (b - 1).toNat
theorem Hf_rng {b : Int} (h : WordB b) : 2 ≤ Hf b ∧ Hf b ≤ 32768 := by
  obtain ⟨h0, h1⟩ := h
  obtain ⟨n, hn⟩ : ∃ n : Nat, (b - 1).toNat = n + 1 := ⟨(b - 1).toNat - 1, by omega⟩
  have hp := Nat.pow_le_pow_right (n := 2) (by omega) (by omega : n + 1 ≤ 15)
  have hq := Nat.pow_le_pow_right (n := 2) (by omega) (by omega : 1 ≤ n + 1)
  unfold Hf; rw [hn]
  have e : (((2 : Nat) ^ (n + 1) : Nat) : Int) = (2 : Int) ^ (n + 1) := Int.natCast_pow 2 _
  rw [← e]
  have hp2 : (2 : Nat) ^ (n + 1) ≤ 32768 := Nat.le_trans hp (by decide)
  have hq2 : 2 ≤ (2 : Nat) ^ (n + 1) := by simpa using hq
  exact ⟨Int.ofNat_le.mpr hq2, Int.ofNat_le.mpr hp2⟩
theorem Hf_two {b : Int} (h : WordB b) : (2 : Int) ^ b.toNat = 2 * Hf b := by
  obtain ⟨h0, h1⟩ := h
  unfold Hf
  have e : b.toNat = (b - 1).toNat + 1 := by omega
  rw [e, Int.pow_succ, Int.mul_comm]
theorem shl_half {b : Int} (h : WordB b) : shl .i64 1 (wrap64 (b - 1)) = Hf b := by
  rw [w64 (by have := h.1; omega) (by have := h.2; omega), shl1 (by have := h.1; omega) (by have := h.2; omega)]; rfl
theorem shl_all {b : Int} (h : WordB b) : shl .i64 1 b = 2 * Hf b := by
  rw [shl1 (by have := h.1; omega) (by have := h.2; omega), Hf_two h]
def wordB (b : Int) : Bool := inB b 2 16
theorem wordB_iff {b : Int} : wordB b = true ↔ WordB b := by simp [wordB, inB_iff, WordB]
theorem isWord_val (b : Int) (c : Bool) : impl_isWord.f b c = some (wordB b) := by unfold impl_isWord.f; rw [in_val]; rfl
theorem wdGood_val (b : Int) (c : Bool) : spec_wdGood.f b c = some (wordB b) := by unfold spec_wdGood.f; rw [l1In_val]; rfl
theorem ends_val {b : Int} (c : Bool) (h : WordB b) : impl_Word_ends.f b c = some (-(Hf b), Hf b - 1) := by
  have hr := Hf_rng h
  unfold impl_Word_ends.f
  rw [if_pos (by rw [w64 (by have := h.1; omega) (by have := h.2; omega)]; have := h.1; omega), shl_half h, w64 (by omega) (by omega), w64 (by omega) (by omega)]
theorem low_val {b : Int} (c : Bool) (h : WordB b) : spec_wdLow.f b c = some (-(Hf b)) := by
  have hr := Hf_rng h
  unfold spec_wdLow.f
  rw [if_pos (by rw [w64 (by have := h.1; omega) (by have := h.2; omega)]; have := h.1; omega), shl_half h, w64 (by omega) (by omega)]
theorem high_val {b : Int} (c : Bool) (h : WordB b) : spec_wdHigh.f b c = some (Hf b - 1) := by
  have hr := Hf_rng h
  unfold spec_wdHigh.f
  rw [if_pos (by rw [w64 (by have := h.1; omega) (by have := h.2; omega)]; have := h.1; omega), shl_half h, w64 (by omega) (by omega)]
theorem hasB_val {b : Int} (h : WordB b) (x : Int) : hasB b x = inB x (-(Hf b)) (Hf b - 1) := by
  have hr := Hf_rng h
  unfold hasB inB
  rw [shl_half h, w64 (by omega) (by omega), w64 (by omega) (by omega)]
/-- a number as a word holds it -/
def fitG (b : Int) (c : Bool) (x : Int) : Int := if c = true then (x + Hf b) % (2 * Hf b) - Hf b else if x < -(Hf b) then -(Hf b) else if Hf b - 1 < x then Hf b - 1 else x
theorem fitG_rng {b : Int} (c : Bool) (x : Int) (h : WordB b) : -(Hf b) ≤ fitG b c x ∧ fitG b c x ≤ Hf b - 1 := by
  have hr := Hf_rng h
  have a1 := Int.emod_nonneg (x + Hf b) (by omega : 2 * Hf b ≠ 0)
  have a2 := Int.emod_lt_of_pos (x + Hf b) (by omega : 0 < 2 * Hf b)
  unfold fitG
  split
  · omega
  · split
    · omega
    · split <;> omega
theorem tmod_twice {x n : Int} (hn : 0 < n) : Int.tmod (Int.tmod x n + n) n = x % n := by
  have h1 := Int.tmod_lt_of_pos x hn
  have h2 : -n < Int.tmod x n := by
    have := Int.lt_tmod_of_pos x hn; exact this
  rw [tmod_nn (by omega)]
  rw [Int.add_emod_right]
  have h3 := Int.tmod_add_mul_tdiv x n
  have h4 : x = Int.tmod x n + n * Int.tdiv x n := h3.symm
  conv => rhs; rw [h4]
  rw [Int.add_mul_emod_self_left]
theorem tmod_rng {x n : Int} (hn : 0 < n) : -n < Int.tmod x n ∧ Int.tmod x n < n := ⟨Int.lt_tmod_of_pos x hn, Int.tmod_lt_of_pos x hn⟩
theorem mod_val {a n : Int} (hn : 0 < n) (h1 : n ≤ 1000000) : impl_mod.f a n = some (a % n) := by
  obtain ⟨h2, h3⟩ := tmod_rng (x := a) hn
  unfold impl_mod.f
  rw [if_neg (by omega), w64 (by omega) (by omega), tmod_twice hn]
theorem fit_val {b : Int} (c : Bool) (h : WordB b) {x : Int} (h0 : -4000000000000000 ≤ x) (h1 : x ≤ 4000000000000000) : impl_Word_fit.f b c x = some (fitG b c x) := by
  have hr := Hf_rng h
  unfold impl_Word_fit.f fitG
  rw [ends_val c h]; simp only [Option.bind_some]
  cases c with
  | true =>
    have a1 := Int.emod_nonneg (x + Hf b) (by omega : 2 * Hf b ≠ 0)
    have a2 := Int.emod_lt_of_pos (x + Hf b) (by omega : 0 < 2 * Hf b)
    have e1 : x - -(Hf b) = x + Hf b := by omega
    have e2 : Hf b - 1 - -(Hf b) = 2 * Hf b - 1 := by omega
    have e3 : 2 * Hf b - 1 + 1 = 2 * Hf b := by omega
    rw [if_pos rfl, if_pos rfl, e1, e2, w64 (x := x + Hf b) (by omega) (by omega), w64 (x := 2 * Hf b - 1) (by omega) (by omega), e3, w64 (x := 2 * Hf b) (by omega) (by omega), mod_val (by omega) (by omega)]
    simp only [Option.bind_some]
    rw [w64 (by omega) (by omega)]
    rfl
  | false =>
    rw [if_neg (by simp), if_neg (by simp)]
    unfold mn mx
    congr 1
    by_cases c1 : x < -(Hf b)
    · rw [if_pos c1, if_pos c1, if_neg (by omega)]
    · rw [if_neg c1, if_neg c1]
theorem wrap_mod {x H : Int} (hH : 0 < H) : (x + H) % (2 * H) - H = if x % (2 * H) > H - 1 then x % (2 * H) - 2 * H else x % (2 * H) := by
  have a1 := Int.emod_nonneg x (by omega : 2 * H ≠ 0)
  have a2 := Int.emod_lt_of_pos x (by omega : 0 < 2 * H)
  rw [Int.add_emod, Int.emod_eq_of_lt (a := H) (by omega) (by omega)]
  by_cases c : x % (2 * H) > H - 1
  · rw [if_pos c]
    have e : x % (2 * H) + H = (x % (2 * H) - H) + 2 * H := by omega
    rw [e, Int.add_emod_right, Int.emod_eq_of_lt (by omega) (by omega)]; omega
  · rw [if_neg c, Int.emod_eq_of_lt (by omega) (by omega)]; omega
theorem wdFit_val {b : Int} (c : Bool) (h : WordB b) {x : Int} (h0 : -4000000000000000 ≤ x) (h1 : x ≤ 4000000000000000) : spec_wdFit.f b c x = some (fitG b c x) := by
  have hr := Hf_rng h
  unfold spec_wdFit.f fitG
  cases c with
  | true =>
    obtain ⟨t1, t2⟩ := tmod_rng (x := x) (by omega : 0 < 2 * Hf b)
    have a1 := Int.emod_nonneg x (by omega : 2 * Hf b ≠ 0)
    have a2 := Int.emod_lt_of_pos x (by omega : 0 < 2 * Hf b)
    rw [if_pos rfl, if_pos rfl, if_pos (by have := h.1; omega), shl_all h, if_neg (by omega), high_val true h]
    simp only [Option.bind_some]
    rw [w64 (x := Int.tmod x (2 * Hf b) + 2 * Hf b) (by omega) (by omega), tmod_twice (by omega), wrap_mod (by omega)]
    by_cases c1 : x % (2 * Hf b) > Hf b - 1
    · rw [if_pos c1, if_pos c1, w64 (by omega) (by omega)]
    · rw [if_neg c1, if_neg c1]
  | false =>
    rw [if_neg (by simp), if_neg (by simp), high_val false h, low_val false h]
    simp only [Option.bind_some]
    unfold spec_l1Most.f spec_l1Least.f
    by_cases c1 : x < -(Hf b)
    · rw [if_pos (by omega), if_pos c1]; simp only [Option.bind_some]; rw [if_neg (by omega)]; rfl
    · rw [if_neg c1]
      by_cases c2 : -(Hf b) > x
      · omega
      · rw [if_neg c2]; simp only [Option.bind_some]
        by_cases c3 : Hf b - 1 < x
        · rw [if_pos c3, if_pos c3]; rfl
        · rw [if_neg c3, if_neg c3]; rfl

/-! ### shifts -/
theorem shr_val {x y : Int} (h0 : 0 ≤ y) (h1 : y ≤ 60) : shr .i64 x y = x / 2 ^ y.toNat := by
  have hb64 : IntKind.i64.bits = 64 := rfl
  unfold shr; rw [Nat.min_eq_left (by rw [hb64]; omega)]
def pw (s : Int) : Int := 2 ^ s.toNat
theorem pw_rng {s : Int} (h0 : 0 ≤ s) (h1 : s ≤ 20) : 1 ≤ pw s ∧ pw s ≤ 1048576 := by
  have e : (((2 : Nat) ^ s.toNat : Nat) : Int) = (2 : Int) ^ s.toNat := Int.natCast_pow 2 _
  have h2 : (2 : Nat) ^ s.toNat ≤ 1048576 := Nat.le_trans (Nat.pow_le_pow_right (n := 2) (by omega) (by omega : s.toNat ≤ 20)) (by decide)
  have h3 : 1 ≤ (2 : Nat) ^ s.toNat := Nat.one_le_two_pow
  unfold pw; rw [← e]
  exact ⟨Int.ofNat_le.mpr h3, Int.ofNat_le.mpr h2⟩
theorem pw_half {s : Int} (h0 : 1 ≤ s) : pw s = 2 * pw (s - 1) := by
  unfold pw
  have e : s.toNat = (s - 1).toNat + 1 := by omega
  rw [e, Int.pow_succ, Int.mul_comm]
/-- a number that is shifted, as each mode rounds -/
def shG (x s m : Int) : Int := if m = 1 ∧ s > 0 then (x + pw (s - 1)) / pw s else if m = 2 ∧ x < 0 then -((-x) / pw s) else x / pw s
theorem shifted_val {x s m : Int} (h0 : 0 ≤ s) (h1 : s ≤ 20) (hx0 : -4000000000000000 ≤ x) (hx1 : x ≤ 4000000000000000) : Evt (fun k => impl_shifted.f k x s m) (shG x s m) := by
  have hp := pw_rng h0 h1
  have hdiv : ∀ y : Int, shr .i64 y s = y / pw s := fun y => shr_val h0 (by omega)
  have hsz : ∀ y : Int, -5000000000000000 ≤ y → y ≤ 5000000000000000 → -5000000000000000 ≤ y / pw s ∧ y / pw s ≤ 5000000000000000 := fun y a b => by
    refine ⟨?_, ?_⟩
    · have : (-5000000000000000 : Int) * pw s ≤ y := by omega
      exact (Int.le_ediv_iff_mul_le (by omega)).mpr this
    · rcases Int.le_total 0 y with c | c
      · exact Int.le_trans (Int.ediv_le_self _ c) b
      · have := Int.ediv_nonpos_of_nonpos_of_neg c (by omega : 0 < pw s); omega
  unfold impl_shifted.f shG
  by_cases m1 : m = 1
  · refine Evt.pos m1 ?_
    by_cases s0 : s > 0
    · have hq := pw_rng (s := s - 1) (by omega) (by omega)
      rw [if_pos ⟨m1, s0⟩]
      refine Evt.step (h := fun _ => some ((x + pw (s - 1)) / pw s)) (fun k => ?_) (Evt.ret _)
      simp only [impl_shifted.j0]
      have hs1 : wrap64 (s - 1) = s - 1 := w64 (by omega) (by omega)
      rw [if_pos (decide_eq_true s0), hs1, if_pos (by omega), if_pos h0, shl1 (by omega) (by omega)]
      show some (shr .i64 (wrap64 (x + pw (s - 1))) s) = _
      rw [w64 (by omega) (by omega), hdiv]
    · rw [if_neg (fun h => s0 h.2), if_neg (fun h => by omega)]
      refine Evt.step (h := fun _ => some (x / pw s)) (fun k => ?_) (Evt.ret _)
      simp only [impl_shifted.j0]
      rw [if_neg (by simp; omega), if_neg (by omega), if_pos h0, hdiv]
  · refine Evt.neg m1 ?_
    rw [if_neg (fun h => m1 h.1)]
    by_cases m2 : m = 2
    · by_cases x0 : x < 0
      · rw [if_pos ⟨m2, x0⟩]
        refine Evt.step (h := fun _ => some (-((-x) / pw s))) (fun k => ?_) (Evt.ret _)
        simp only [impl_shifted.j0]
        have hz := hsz (-x) (by omega) (by omega)
        rw [if_neg (by simp), if_pos m2, if_pos x0, if_pos h0, w64 (x := -x) (by omega) (by omega), hdiv, w64 (by omega) (by omega)]
      · rw [if_neg (fun h => x0 h.2)]
        refine Evt.step (h := fun _ => some (x / pw s)) (fun k => ?_) (Evt.ret _)
        simp only [impl_shifted.j0]
        rw [if_neg (by simp), if_pos m2, if_neg x0, if_pos h0, hdiv]
    · rw [if_neg (fun h => m2 h.1)]
      refine Evt.step (h := fun _ => some (x / pw s)) (fun k => ?_) (Evt.ret _)
      simp only [impl_shifted.j0]
      rw [if_neg (by simp), if_neg m2, if_pos h0, hdiv]
theorem floor_val {x d : Int} (hd : 0 < d) : (if Int.tmod x d < 0 then Int.tdiv x d - 1 else Int.tdiv x d) = x / d := by
  obtain ⟨t1, t2⟩ := tmod_rng (x := x) hd
  have h3 := Int.tmod_add_mul_tdiv x d
  by_cases c : Int.tmod x d < 0
  · rw [if_pos c]
    exact ((Int.ediv_emod_unique (r := Int.tmod x d + d) hd).mpr ⟨by rw [Int.mul_sub]; omega, by omega, by omega⟩).1.symm
  · rw [if_neg c]
    exact ((Int.ediv_emod_unique (r := Int.tmod x d) hd).mpr ⟨h3, by omega, by omega⟩).1.symm
theorem ceil_val {x d : Int} (hd : 0 < d) : -((-x) / d) = if x % d > 0 then x / d + 1 else x / d := by
  have a1 := Int.emod_nonneg x (by omega : d ≠ 0)
  have a2 := Int.emod_lt_of_pos x hd
  have h3 := Int.emod_add_mul_ediv x d
  by_cases c : x % d > 0
  · rw [if_pos c]
    have := ((Int.ediv_emod_unique (a := -x) (q := -(x / d) - 1) (r := d - x % d) hd).mpr ⟨by rw [Int.mul_sub, Int.mul_neg]; omega, by omega, by omega⟩).1
    omega
  · rw [if_neg c]
    have := ((Int.ediv_emod_unique (a := -x) (q := -(x / d)) (r := 0) hd).mpr ⟨by rw [Int.mul_neg]; omega, by omega, by omega⟩).1
    omega
theorem round_val {x h : Int} (hh : 0 < h) : (x + h) / (2 * h) = if 2 * (x % (2 * h)) ≥ 2 * h then x / (2 * h) + 1 else x / (2 * h) := by
  have a1 := Int.emod_nonneg x (by omega : 2 * h ≠ 0)
  have a2 := Int.emod_lt_of_pos x (by omega : 0 < 2 * h)
  have h3 := Int.emod_add_mul_ediv x (2 * h)
  by_cases c : 2 * (x % (2 * h)) ≥ 2 * h
  · rw [if_pos c]
    exact ((Int.ediv_emod_unique (r := x % (2 * h) - h) (by omega)).mpr ⟨by rw [Int.mul_add]; omega, by omega, by omega⟩).1
  · rw [if_neg c]
    exact ((Int.ediv_emod_unique (r := x % (2 * h) + h) (by omega)).mpr ⟨by omega, by omega, by omega⟩).1
theorem wdShift_val {x s m : Int} (h0 : 0 ≤ s) (h1 : s ≤ 20) (hx0 : -4000000000000000 ≤ x) (hx1 : x ≤ 4000000000000000) : Evt (fun k => spec_wdShift.f k x s m) (shG x s m) := by
  have hp := pw_rng h0 h1
  have hsh : shl .i64 1 s = pw s := shl1 h0 (by omega)
  obtain ⟨t1, t2⟩ := tmod_rng (x := x) (by omega : 0 < pw s)
  have a1 := Int.emod_nonneg x (by omega : pw s ≠ 0)
  have a2 := Int.emod_lt_of_pos x (by omega : 0 < pw s)
  have h3 := Int.emod_add_mul_ediv x (pw s)
  have hfl := floor_val (x := x) (by omega : 0 < pw s)
  have hq0 : -5000000000000000 ≤ x / pw s := (Int.le_ediv_iff_mul_le (by omega)).mpr (by omega)
  have hq1 : x / pw s ≤ 5000000000000000 := by
    rcases Int.le_total 0 x with c | c
    · exact Int.le_trans (Int.ediv_le_self _ c) (by omega)
    · have := Int.ediv_nonpos_of_nonpos_of_neg c (by omega : 0 < pw s); omega
  have hj1 : ∀ (b : Bool), (b = true → x / pw s + 1 = shG x s m) → (b = false → (if m = 2 ∧ x < 0 ∧ x % pw s > 0 then x / pw s + 1 else x / pw s) = shG x s m) → Evt (fun k => spec_wdShift.j1 k x m (x / pw s) (x % pw s) b) (shG x s m) := fun b e1 e2 => by
    refine Evt.step (h := fun _ => some (shG x s m)) (fun k => ?_) (Evt.ret _)
    simp only [spec_wdShift.j1]
    rw [w64 (x := x / pw s + 1) (by omega) (by omega)]
    cases b with
    | true => rw [if_pos rfl, e1 rfl]
    | false =>
      rw [← e2 rfl, if_neg (by simp)]
      by_cases m2 : m = 2
      · by_cases x0 : x < 0
        · by_cases r0 : x % pw s > 0
          · rw [if_pos m2, if_pos x0, if_pos r0, if_pos ⟨m2, x0, r0⟩]
          · rw [if_pos m2, if_pos x0, if_neg r0, if_neg (fun h => r0 h.2.2)]
        · rw [if_pos m2, if_neg x0, if_neg (fun h => x0 h.2.1)]
      · rw [if_neg m2, if_neg (fun h => m2 h.1)]
  have hr : wrap64 (x - wrap64 (x / pw s * pw s)) = x % pw s := by
    have e : x / pw s * pw s = x - x % pw s := by rw [Int.mul_comm]; omega
    rw [e, w64 (x := x - x % pw s) (by omega) (by omega), w64 (by omega) (by omega)]; omega
  have hj0 : Evt (fun k => spec_wdShift.j0 k x m (pw s) (x / pw s)) (shG x s m) := by
    refine Evt.step (fun k => by simp only [spec_wdShift.j0]; rw [hr]) ?_
    rw [w64 (x := 2 * (x % pw s)) (by omega) (by omega)]
    by_cases m1 : m = 1
    · refine Evt.pos m1 ?_
      by_cases s0 : s > 0
      · have hh := pw_half (s := s) (by omega)
        have hq := pw_rng (s := s - 1) (by omega) (by omega)
        have hrd := round_val (x := x) (h := pw (s - 1)) (by omega)
        rw [← hh] at hrd
        by_cases c : 2 * (x % pw s) ≥ pw s
        · rw [if_pos c] at hrd
          refine Evt.pos c (hj1 _ (fun _ => ?_) (fun e => ?_))
          · unfold shG; rw [if_pos ⟨m1, s0⟩, hrd]
          · simp at e; omega
        · rw [if_neg c] at hrd
          refine Evt.neg c (hj1 _ (fun e => by simp at e) (fun _ => ?_))
          rw [if_neg (fun h => by have := h.1; omega)]
          unfold shG; rw [if_pos ⟨m1, s0⟩, hrd]
      · have hp1 : pw s = 1 := by
          have : s = 0 := by omega
          subst this; rfl
        refine Evt.neg (by omega) (hj1 _ (fun e => by simp at e) (fun _ => ?_))
        rw [if_neg (fun h => by have := h.1; omega)]
        unfold shG; rw [if_neg (fun h => s0 h.2), if_neg (fun h => by have := h.1; omega)]
    · refine Evt.neg m1 (hj1 _ (fun e => by simp at e) (fun _ => ?_))
      have e : shG x s m = if m = 2 ∧ x < 0 then -((-x) / pw s) else x / pw s := by unfold shG; rw [if_neg (fun h => m1 h.1)]
      rw [e]
      by_cases m2 : m = 2 ∧ x < 0
      · rw [if_pos m2, ceil_val (by omega)]
        by_cases r0 : x % pw s > 0
        · rw [if_pos ⟨m2.1, m2.2, r0⟩, if_pos r0]
        · rw [if_neg (fun h => r0 h.2.2), if_neg r0]
      · rw [if_neg m2, if_neg (fun h => m2 ⟨h.1, h.2.1⟩)]
  unfold spec_wdShift.f
  refine Evt.pos h0 ?_
  rw [hsh]
  refine Evt.neg (by omega) ?_
  have hb := floor_val (x := x) (by omega : 0 < pw s)
  by_cases c : Int.tmod x (pw s) < 0
  · rw [if_pos c] at hfl
    refine Evt.pos c ?_
    rw [w64 (x := Int.tdiv x (pw s)) (by omega) (by omega), hfl, w64 (by omega) (by omega)]
    exact hj0
  · rw [if_neg c] at hfl
    refine Evt.neg c ?_
    rw [hfl, w64 (by omega) (by omega)]
    exact hj0

/-! ### what may be asked -/
def wei (l : List Int) : Bool := inB l.length 1 9 && l.all (fun x => inB x (-1000) 1000)
theorem isWeights_val (l : List Int) : impl_isWeights.f l = some (wei l) := rfl
theorem weGood_val (l : List Int) : Evt (fun k => spec_weGood.f k l) (wei l) := by
  unfold spec_weGood.f wei
  refine Evt.bindp (l1In_val _ _ _) ?_
  by_cases h : inB l.length 1 9 = true
  · have hl := inB_iff.mp h
    refine Evt.pos h (Evt.bind (l1All_val l _ _ (by omega)) ((Evt.ret _).eq (by rw [h]; rfl)))
  · refine Evt.neg h ((Evt.ret _).eq (by simp at h; rw [h]; rfl))
def shiB (s m : Int) : Bool := inB s 0 20 && inB m 0 2
theorem isShift_val (s m : Int) : impl_isShift.f s m = some (shiB s m) := by
  unfold impl_isShift.f shiB; rw [in_val]; simp only [Option.bind_some]; rw [in_val]
  cases inB s 0 20 <;> simp
theorem wdMode_val (s m : Int) : spec_wdMode.f s m = some (shiB s m) := by
  unfold spec_wdMode.f shiB; rw [l1In_val]; simp only [Option.bind_some]; rw [l1In_val]
  cases inB s 0 20 <;> simp
def askB (b : Int) (l s : List Int) (sh m : Int) : Bool := wordB b && wei l && sig s && shiB sh m && l.all (fun x => inB x (-(Hf b)) (Hf b - 1)) && s.all (fun x => inB x (-(Hf b)) (Hf b - 1))
theorem inWord_val (b : Int) (c : Bool) (l s : List Int) (sh m : Int) : impl_inWord.f b c l s sh m = some (askB b l s sh m) := by
  unfold impl_inWord.f askB
  rw [isWord_val]; simp only [Option.bind_some]
  by_cases h1 : wordB b = true
  · have hW := wordB_iff.mp h1
    have hl : l.all (hasB b) = l.all (fun x => inB x (-(Hf b)) (Hf b - 1)) := by congr 1; funext x; exact hasB_val hW x
    have hs : s.all (hasB b) = s.all (fun x => inB x (-(Hf b)) (Hf b - 1)) := by congr 1; funext x; exact hasB_val hW x
    rw [if_pos h1, isWeights_val, isSignal_val, isShift_val, hl, hs, h1]; simp only [Option.bind_some]
    cases wei l <;> cases sig s <;> cases shiB sh m <;> simp
  · rw [if_neg h1]; simp at h1; rw [h1]; rfl
theorem weInWord_val (b : Int) (c : Bool) (l s : List Int) (sh m : Int) : Evt (fun k => spec_weInWord.f k b c l s sh m) (askB b l s sh m) := by
  unfold spec_weInWord.f askB
  refine Evt.bindp (wdGood_val b c) ?_
  by_cases h1 : wordB b = true
  · have hW := wordB_iff.mp h1
    refine Evt.pos h1 ?_
    have ha : Evt (fun k => spec_weAsked.f k l s) (wei l && sig s) := by
      unfold spec_weAsked.f
      refine Evt.bind (weGood_val l) ?_
      by_cases h2 : wei l = true
      · exact Evt.pos h2 (Evt.bind (wdSignal_val s) ((Evt.ret _).eq (by rw [h2]; rfl)))
      · exact Evt.neg h2 ((Evt.ret _).eq (by simp at h2; rw [h2]; rfl))
    refine Evt.bind ha ?_
    by_cases h2 : (wei l && sig s) = true
    · obtain ⟨h3, h4⟩ : wei l = true ∧ sig s = true := by simpa using h2
      have hl : l.length ≤ 1000000 := by have := (inB_iff.mp (by unfold wei at h3; simp at h3; exact h3.1 : inB l.length 1 9 = true)); omega
      have hs : s.length ≤ 1000000 := by have := (sig_iff.mp h4).1; omega
      refine Evt.pos h2 (Evt.bindp (wdMode_val sh m) ?_)
      by_cases h5 : shiB sh m = true
      · refine Evt.pos h5 (Evt.bindp (low_val c hW) (Evt.bindp (high_val c hW) (Evt.bind (l1All_val l _ _ hl) ?_)))
        by_cases h6 : l.all (fun x => inB x (-(Hf b)) (Hf b - 1)) = true
        · exact Evt.pos h6 (Evt.bindp (low_val c hW) (Evt.bindp (high_val c hW) (Evt.bind (l1All_val s _ _ hs) ((Evt.ret _).eq (by rw [h1, h3, h4, h5, h6]; rfl)))))
        · exact Evt.neg h6 ((Evt.ret _).eq (by rw [Bool.eq_false_iff.mpr h6]; simp))
      · exact Evt.neg h5 ((Evt.ret _).eq (by rw [Bool.eq_false_iff.mpr h5]; simp))
    · refine Evt.neg h2 ((Evt.ret _).eq ?_)
      cases hw : wei l <;> cases hs : sig s <;> simp [hw, hs] at h2 ⊢
  · exact Evt.neg h1 ((Evt.ret _).eq (by rw [Bool.eq_false_iff.mpr h1]; rfl))
end Go.Proofs.Ytjbpflfihdabhaa.PureF
