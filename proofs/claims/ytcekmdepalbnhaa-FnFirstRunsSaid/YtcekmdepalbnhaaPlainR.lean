/- What the functions that this statement reaches compute, in plain Lean: those laws of our library that it needs. No condition. -/
import Derived.Test.YtcekmdepalbnhaaPFnFirstRunsx0
import Derived.Test.YtcekmdepalbnhaaPFnFirstRunsx1
import Derived.Test.YtcekmdepalbnhaaPFnFirstRunsx2
import Derived.Test.YtcekmdepalbnhaaPFnFirstRunsx3
import Derived.Test.YtcekmdepalbnhaaPFnFirstRunsx4
import Derived.Test.YtcekmdepalbnhaaPFnFirstRunsx5
import Derived.Test.YtcekmdepalbnhaaPFnFirstRunsx6
import Derived.Test.YtcekmdepalbnhaaPFnFirstRunsx7
import Derived.Test.YtcekmdepalbnhaaPFnFirstRunsx8
import Derived.Test.YtcekmdepalbnhaaPFnFirstRunsx9
import Derived.Test.YtcekmdepalbnhaaBase
import Derived.Laws.BitsLemmas
namespace Go.Proofs.Ytcekmdepalbnhaa.PlainFnFirstRuns
open Go.RowKit Go.Proofs.Ytcekmdepalbnhaa.PFnFirstRuns Go.Proofs.YtcekmdepalbnhaaW.PrintWords Go.Proofs.YtcekmdepalbnhaaW.PrintLast Go.Proofs.YtcekmdepalbnhaaW.PrintMore Go.Proofs.Ytcekmdepalbnhaa.Base
set_option linter.unusedVariables false
set_option linter.unusedSimpArgs false
def Bytes (s : List Int) : Prop := ∀ x ∈ s, 0 ≤ x ∧ x ≤ 255
theorem and255 (x : Int) (h0 : 0 ≤ x) (h1 : x < 18446744073709551616) : Go.bits .and .u64 x 255 = x % 256 :=
  bits_mask .u64 64 (by decide) (fun n h0 h1 => by simp [IntKind.wrap, IntKind.bits, IntKind.signed]; omega) 8 (by decide) x h0 h1
theorem u64_rng (x : Int) : 0 ≤ IntKind.u64.wrap x ∧ IntKind.u64.wrap x < 18446744073709551616 := by
  simp [IntKind.wrap, IntKind.bits, IntKind.signed]; omega
theorem next_some (s : List Int) (p seed : Int) (hs : Bytes s) (h0 : 0 ≤ p) (h1 : p ≤ 1000000) :
    ∃ b seed', spec_l1Cur_next.f s p seed = some (b, p + 1, seed') ∧ 0 ≤ b ∧ b ≤ 255 := by
  have hw : wrap64 (p + 1) = p + 1 := w64 (by omega) (by omega)
  have hx : ∀ y : Int, 0 ≤ wrap64 (Go.bits .and .u64 (IntKind.u64.wrap y / 1099511627776) 255) ∧ wrap64 (Go.bits .and .u64 (IntKind.u64.wrap y / 1099511627776) 255) ≤ 255 := fun y => by
    have := u64_rng y
    rw [and255 _ (by omega) (by omega), w64 (by omega) (by omega)]; omega
  unfold spec_l1Cur_next.f
  rw [hw]
  by_cases hp : p < (s.length : Int)
  · have hb := hs _ (rd_mem h0 hp)
    rw [if_pos hp, if_pos h0]
    by_cases hq : p + 1 ≤ (s.length : Int)
    · rw [if_pos hq]
      exact ⟨_, _, rfl, by rw [w64 (by omega) (by omega)]; exact hb.1, by rw [w64 (by omega) (by omega)]; exact hb.2⟩
    · omega
  · rw [if_neg hp, if_neg (by omega)]
    exact ⟨_, _, rfl, hx _⟩
theorem pick_some (s : List Int) (p seed n : Int) (hs : Bytes s) (h0 : 0 ≤ p) (h1 : p ≤ 900000) (hn : n ≤ 1000000) :
    ∃ x p' seed', spec_l1Cur_pick.f s p seed n = some (x, p', seed') ∧ 0 ≤ x ∧ x ≤ max 0 (n - 1) ∧ p ≤ p' ∧ p' ≤ p + 2 := by
  unfold spec_l1Cur_pick.f
  by_cases c : n ≤ 1
  · rw [if_pos c]
    exact ⟨_, _, _, rfl, by omega, by omega, by omega, by omega⟩
  · obtain ⟨b, sd, e, hb0, hb1⟩ := next_some s p seed hs h0 (by omega)
    rw [if_neg c, e]
    simp only [Option.bind_some]
    by_cases d : n > 200
    · obtain ⟨b', sd', e', hb0', hb1'⟩ := next_some s (p + 1) sd hs (by omega) (by omega)
      rw [if_pos d, e']
      simp only [Option.bind_some]
      rw [if_neg (by omega), w64 (x := b * 256) (by omega) (by omega), w64 (x := b * 256 + b') (by omega) (by omega), tmod_nn (by omega)]
      have := Int.emod_nonneg (b * 256 + b') (by omega : n ≠ 0)
      have := Int.emod_lt_of_pos (b * 256 + b') (by omega : 0 < n)
      exact ⟨_, _, _, rfl, by omega, by omega, by omega, by omega⟩
    · rw [if_neg d, if_neg (by omega), tmod_nn (by omega)]
      have := Int.emod_nonneg b (by omega : n ≠ 0)
      have := Int.emod_lt_of_pos b (by omega : 0 < n)
      exact ⟨_, _, _, rfl, by omega, by omega, by omega, by omega⟩
theorem one_some (s : List Int) (p seed n : Int) (hs : Bytes s) (h0 : 0 ≤ p) (h1 : p ≤ 900000) (hn : n ≤ 1000000) :
    ∃ b p' seed', spec_l1Cur_one.f s p seed n = some (b, p', seed') ∧ p ≤ p' ∧ p' ≤ p + 2 := by
  obtain ⟨x, p', sd, e, _, _, g1, g2⟩ := pick_some s p seed n hs h0 h1 hn
  unfold spec_l1Cur_one.f
  rw [e]
  exact ⟨_, _, _, rfl, g1, g2⟩
theorem among_some (s : List Int) (p seed : Int) (l : List Int) (hs : Bytes s) (h0 : 0 ≤ p) (h1 : p ≤ 900000) (hl : 0 < l.length) (hn : (l.length : Int) ≤ 1000000) :
    ∃ x p' seed', spec_l1Cur_among.f s p seed l = some (x, p', seed') ∧ x ∈ l ∧ p ≤ p' ∧ p' ≤ p + 2 := by
  obtain ⟨x, p', sd, e, a, b, g1, g2⟩ := pick_some s p seed l.length hs h0 h1 hn
  unfold spec_l1Cur_among.f
  rw [e]
  simp only [Option.bind_some]
  rw [if_pos a, if_pos (by omega)]
  exact ⟨_, _, _, rfl, rd_mem a (by omega), g1, g2⟩
/-- what a drawn list may hold: numbers that fit, and not many -/
def Fit (l : List Int) : Prop := l.length ≤ 200 ∧ ∀ x ∈ l, -4611686018427387904 ≤ x ∧ x ≤ 4611686018427387904
theorem Fit.snoc {l : List Int} (h : Fit l) {x : Int} (hl : l.length ≤ 199) (h0 : -4611686018427387904 ≤ x) (h1 : x ≤ 4611686018427387904) : Fit (l ++ [x]) :=
  ⟨by simp; omega, fun y hy => by
    rcases List.mem_append.mp hy with hy | hy
    · exact h.2 y hy
    · rw [List.mem_singleton] at hy; subst hy; exact ⟨h0, h1⟩⟩
theorem Fit.zeros (n : Nat) (h : n ≤ 200) : Fit (List.replicate n 0) :=
  ⟨by simpa using h, fun x hx => by rw [(List.mem_replicate.mp hx).2]; omega⟩
theorem signal_loop (s : List Int) (size : Int) (hs : Bytes s) (h2 : 0 ≤ size) (h3 : size ≤ 400000) : ∀ (d : Nat) (out : List Int) (p seed : Int),
    0 ≤ p → p + 4 * d + 10 ≤ 900000 → out.length + d ≤ 190 → Fit out →
    ∃ r p' seed', Evt (fun k => spec_l1Cur_signal.l0 k size out d s p seed) (r, p', seed') ∧ Fit r ∧ 0 ≤ p' ∧ p' ≤ p + 4 * d + 10
  | 0, out, p, seed, h0, h1, hl, hf => by
    have hsz : out.length < 17592186044416 := by omega
    obtain ⟨x, p1, s1, e1, a1, b1, g1, g2⟩ := pick_some s p seed 16 hs h0 (by omega) (by omega)
    by_cases c0 : x = 0
    · obtain ⟨y, p2, s2, e2, m2, g3, g4⟩ := among_some s p1 s1 [100000, -100000, 100001, 4611686018427387904] hs (by omega) (by omega) (by simp) (by simp)
      refine ⟨out ++ [y], p2, s2, Evt.step (h := fun _ => some (out ++ [y], p2, s2)) (fun k => ?_) (Evt.ret _), hf.snoc (by omega) ?_ ?_, by omega, by omega⟩
      · simp only [spec_l1Cur_signal.l0]
        rw [if_neg (by omega), e1]; simp only [Option.bind_some]
        rw [if_pos c0, e2]; simp only [Option.bind_some]
        rw [if_pos hsz]
      · simp at m2; rcases m2 with rfl | rfl | rfl | rfl <;> omega
      · simp at m2; rcases m2 with rfl | rfl | rfl | rfl <;> omega
    · by_cases c1 : x = 1
      · obtain ⟨y, p2, s2, e2, a2, b2, g3, g4⟩ := pick_some s p1 s1 2 hs (by omega) (by omega) (by omega)
        have hw : wrap64 (64 + y) = 64 + y := w64 (by omega) (by omega)
        refine ⟨List.replicate (64 + y).toNat 0, p2, s2, Evt.step (h := fun _ => some (List.replicate (64 + y).toNat 0, p2, s2)) (fun k => ?_) (Evt.ret _), Fit.zeros _ (by omega), by omega, by omega⟩
        simp only [spec_l1Cur_signal.l0]
        rw [if_neg (by omega), e1]; simp only [Option.bind_some]
        rw [if_neg c0, if_pos c1, e2]; simp only [Option.bind_some]
        rw [hw, if_pos (by omega), if_pos (by omega)]
      · refine ⟨out, p1, s1, Evt.step (h := fun _ => some (out, p1, s1)) (fun k => ?_) (Evt.ret _), hf, by omega, by omega⟩
        simp only [spec_l1Cur_signal.l0]
        rw [if_neg (by omega), e1]; simp only [Option.bind_some]
        rw [if_neg c0, if_neg c1]
  | d + 1, out, p, seed, h0, h1, hl, hf => by
    have hsz : out.length < 17592186044416 := by omega
    have hd : wrap64 (((d + 1 : Nat) : Int) - 1) = (d : Int) := by rw [w64 (by omega) (by omega)]; omega
    obtain ⟨b, p1, s1, e1, g1, g2⟩ := one_some s p seed 4 hs h0 (by omega) (by omega)
    cases b with
    | true =>
      obtain ⟨r, p', sd, hr, hf', q0, q1⟩ := signal_loop s size hs h2 h3 d (out ++ [0]) p1 s1 (by omega) (by omega) (by simp; omega) (hf.snoc (by omega) (by omega) (by omega))
      refine ⟨r, p', sd, Evt.step (fun k => ?_) hr, hf', q0, by omega⟩
      simp only [spec_l1Cur_signal.l0]
      rw [if_pos (by omega), e1]; simp only [Option.bind_some, if_true]
      rw [if_pos hsz, hd]
    | false =>
      have hw : wrap64 (wrap64 (2 * size) + 1) = 2 * size + 1 := by rw [w64 (x := 2 * size) (by omega) (by omega), w64 (by omega) (by omega)]
      obtain ⟨y, p2, s2, e2, a2, b2, g3, g4⟩ := pick_some s p1 s1 (2 * size + 1) hs (by omega) (by omega) (by omega)
      have hy : wrap64 (y - size) = y - size := w64 (by omega) (by omega)
      obtain ⟨r, p', sd, hr, hf', q0, q1⟩ := signal_loop s size hs h2 h3 d (out ++ [y - size]) p2 s2 (by omega) (by omega) (by simp; omega) (hf.snoc (by omega) (by omega) (by omega))
      refine ⟨r, p', sd, Evt.step (fun k => ?_) hr, hf', q0, by omega⟩
      simp only [spec_l1Cur_signal.l0]
      rw [if_pos (by omega), e1]; simp only [Option.bind_some]
      rw [if_neg (by simp), hw, e2]; simp only [Option.bind_some]
      rw [if_pos hsz, hd, hy]
theorem signal_some (s : List Int) (p seed most size : Int) (hs : Bytes s) (h0 : 0 ≤ p) (h1 : p ≤ 100000) (h2 : 0 ≤ most) (h3 : most ≤ 180) (h4 : 0 ≤ size) (h5 : size ≤ 400000) :
    ∃ r p' seed', Evt (fun k => spec_l1Cur_signal.f k s p seed most size) (r, p', seed') ∧ Fit r ∧ 0 ≤ p' ∧ p' ≤ p + 1000 := by
  obtain ⟨x, p1, s1, e1, a1, b1, g1, g2⟩ := pick_some s p seed (most + 1) hs h0 (by omega) (by omega)
  obtain ⟨r, p', sd, hr, hf, q0, q1⟩ := signal_loop s size hs h4 h5 x.toNat [] p1 s1 (by omega) (by omega) (by simp; omega) ⟨by simp, by simp⟩
  refine ⟨r, p', sd, ?_, hf, q0, by omega⟩
  unfold spec_l1Cur_signal.f
  refine Evt.bindp (by rw [w64 (by omega) (by omega)]; exact e1) ?_
  rw [Int.toNat_of_nonneg a1] at hr
  exact hr
def inB (a lo hi : Int) : Bool := decide (lo ≤ a) && decide (a ≤ hi)
theorem inB_iff {a lo hi : Int} : inB a lo hi = true ↔ lo ≤ a ∧ a ≤ hi := by simp [inB]
theorem in_val (a lo hi : Int) : impl_in.f a lo hi = some (inB a lo hi) := by
  unfold impl_in.f inB; by_cases h : lo ≤ a <;> simp [h]
theorem l1In_val (a lo hi : Int) : spec_l1In.f a lo hi = some (inB a lo hi) := by
  unfold spec_l1In.f inB; by_cases h : lo ≤ a <;> simp [h]
def sig (l : List Int) : Bool := decide (l.length ≤ 64) && l.all (fun x => decide (-100000 ≤ x) && decide (x ≤ 100000))
theorem sig_iff {l : List Int} : sig l = true ↔ l.length ≤ 64 ∧ ∀ x ∈ l, -100000 ≤ x ∧ x ≤ 100000 := by simp [sig]
theorem isSignal_val (l : List Int) : impl_isSignal.f l = some (sig l) := rfl
theorem l1All_loop (lo hi : Int) (l : List Int) (hb : l.length ≤ 1000000) : ∀ (d i : Nat), i + d = l.length →
    Evt (fun k => spec_l1All.l0 k lo hi l l.length i) ((l.drop i).all (fun x => inB x lo hi))
  | 0, i, h => by
    refine Evt.step (h := fun _ => some true) (fun k => ?_) ((Evt.ret _).eq (by rw [List.drop_of_length_le (by omega)]; rfl))
    simp only [spec_l1All.l0]; rw [if_neg (by omega)]
  | d + 1, i, h => by
    have ih := l1All_loop lo hi l hb d (i + 1) (by omega)
    have e : (l.drop i).all (fun x => inB x lo hi) = (inB (rd l i) lo hi && (l.drop (i + 1)).all (fun x => inB x lo hi)) := by rw [drop_rd l i (by omega), List.all_cons]
    rw [e]
    cases hx : inB (rd l i) lo hi with
    | true =>
      refine Evt.step (fun k => ?_) (ih.eq (by simp))
      simp only [spec_l1All.l0]
      rw [if_pos (by omega), if_pos (by omega), if_pos (by omega), l1In_val, hx]; simp only [Option.bind_some, if_true]
      rw [w64 (by omega) (by omega)]; rfl
    | false =>
      refine Evt.step (h := fun _ => some false) (fun k => ?_) ((Evt.ret _).eq (by simp))
      simp only [spec_l1All.l0]
      rw [if_pos (by omega), if_pos (by omega), if_pos (by omega), l1In_val, hx]; simp only [Option.bind_some]
      rw [if_neg (by simp)]
theorem l1All_val (l : List Int) (lo hi : Int) (hb : l.length ≤ 1000000) : Evt (fun k => spec_l1All.f k l lo hi) (l.all (fun x => inB x lo hi)) :=
  (l1All_loop lo hi l hb l.length 0 (by omega)).eq (by simp)
theorem wdSignal_val (l : List Int) : Evt (fun k => spec_wdSignal.f k l) (sig l) := by
  unfold spec_wdSignal.f sig
  by_cases h : l.length ≤ 64
  · refine Evt.pos (by omega) (Evt.bind (l1All_val l _ _ (by omega)) ((Evt.ret _).eq ?_))
    simp [h]; rfl
  · refine Evt.neg (by omega) ((Evt.ret _).eq ?_)
    simp [h]
theorem shl1 {y : Int} (h0 : 0 ≤ y) (h1 : y ≤ 40) : shl .i64 1 y = 2 ^ y.toNat := by
  have hp : (2 : Int) ^ y.toNat ≤ 1099511627776 := by
    have h2 : (2 : Nat) ^ y.toNat ≤ 1099511627776 := Nat.le_trans (Nat.pow_le_pow_right (n := 2) (by omega) (by omega : y.toNat ≤ 40)) (by decide)
    have e : (((2 : Nat) ^ y.toNat : Nat) : Int) = (2 : Int) ^ y.toNat := Int.natCast_pow 2 _
    rw [← e]; exact Int.ofNat_le.mpr h2
  have hq : 0 < (2 : Int) ^ y.toNat := Int.pow_pos (by omega)
  have hb64 : IntKind.i64.bits = 64 := rfl
  have hm : min y.toNat IntKind.i64.bits = y.toNat := Nat.min_eq_left (by rw [hb64]; omega)
  unfold shl
  rw [hm, i64_w, Int.one_mul]
  exact w64 (by omega) (by omega)
def WordB (b : Int) : Prop := 2 ≤ b ∧ b ≤ 16
/-- half of a word's numbers -/
def Hf (b : Int) : Int := 2 ^ (b - 1).toNat
theorem Hf_rng {b : Int} (h : WordB b) : 2 ≤ Hf b ∧ Hf b ≤ 32768 := by
  obtain ⟨h0, h1⟩ := h
  obtain ⟨n, hn⟩ : ∃ n : Nat, (b - 1).toNat = n + 1 := ⟨(b - 1).toNat - 1, by omega⟩
  have hp := Nat.pow_le_pow_right (n := 2) (by omega) (by omega : n + 1 ≤ 15)
  have hq := Nat.pow_le_pow_right (n := 2) (by omega) (by omega : 1 ≤ n + 1)
  unfold Hf; rw [hn]
  have e : (((2 : Nat) ^ (n + 1) : Nat) : Int) = (2 : Int) ^ (n + 1) := Int.natCast_pow 2 _
  rw [← e]
  have hp2 : (2 : Nat) ^ (n + 1) ≤ 32768 := Nat.le_trans hp (by decide)
  have hq2 : 2 ≤ (2 : Nat) ^ (n + 1) := by simpa using hq
  exact ⟨Int.ofNat_le.mpr hq2, Int.ofNat_le.mpr hp2⟩
theorem Hf_two {b : Int} (h : WordB b) : (2 : Int) ^ b.toNat = 2 * Hf b := by
  obtain ⟨h0, h1⟩ := h
  unfold Hf
  have e : b.toNat = (b - 1).toNat + 1 := by omega
  rw [e, Int.pow_succ, Int.mul_comm]
theorem shl_half {b : Int} (h : WordB b) : shl .i64 1 (wrap64 (b - 1)) = Hf b := by
  rw [w64 (by have := h.1; omega) (by have := h.2; omega), shl1 (by have := h.1; omega) (by have := h.2; omega)]; rfl
theorem shl_all {b : Int} (h : WordB b) : shl .i64 1 b = 2 * Hf b := by
  rw [shl1 (by have := h.1; omega) (by have := h.2; omega), Hf_two h]
def wordB (b : Int) : Bool := inB b 2 16
theorem wordB_iff {b : Int} : wordB b = true ↔ WordB b := by simp [wordB, inB_iff, WordB]
theorem isWord_val (b : Int) (c : Bool) : impl_isWord.f b c = some (wordB b) := by unfold impl_isWord.f; rw [in_val]; rfl
theorem wdGood_val (b : Int) (c : Bool) : spec_wdGood.f b c = some (wordB b) := by unfold spec_wdGood.f; rw [l1In_val]; rfl
theorem ends_val {b : Int} (c : Bool) (h : WordB b) : impl_Word_ends.f b c = some (-(Hf b), Hf b - 1) := by
  have hr := Hf_rng h
  unfold impl_Word_ends.f
  rw [if_pos (by rw [w64 (by have := h.1; omega) (by have := h.2; omega)]; have := h.1; omega), shl_half h, w64 (by omega) (by omega), w64 (by omega) (by omega)]
theorem low_val {b : Int} (c : Bool) (h : WordB b) : spec_wdLow.f b c = some (-(Hf b)) := by
  have hr := Hf_rng h
  unfold spec_wdLow.f
  rw [if_pos (by rw [w64 (by have := h.1; omega) (by have := h.2; omega)]; have := h.1; omega), shl_half h, w64 (by omega) (by omega)]
theorem high_val {b : Int} (c : Bool) (h : WordB b) : spec_wdHigh.f b c = some (Hf b - 1) := by
  have hr := Hf_rng h
  unfold spec_wdHigh.f
  rw [if_pos (by rw [w64 (by have := h.1; omega) (by have := h.2; omega)]; have := h.1; omega), shl_half h, w64 (by omega) (by omega)]
/-- a number as a word holds it -/
def fitG (b : Int) (c : Bool) (x : Int) : Int := if c = true then (x + Hf b) % (2 * Hf b) - Hf b else if x < -(Hf b) then -(Hf b) else if Hf b - 1 < x then Hf b - 1 else x
theorem fitG_rng {b : Int} (c : Bool) (x : Int) (h : WordB b) : -(Hf b) ≤ fitG b c x ∧ fitG b c x ≤ Hf b - 1 := by
  have hr := Hf_rng h
  have a1 := Int.emod_nonneg (x + Hf b) (by omega : 2 * Hf b ≠ 0)
  have a2 := Int.emod_lt_of_pos (x + Hf b) (by omega : 0 < 2 * Hf b)
  unfold fitG
  split
  · omega
  · split
    · omega
    · split <;> omega
theorem tmod_twice {x n : Int} (hn : 0 < n) : Int.tmod (Int.tmod x n + n) n = x % n := by
  have h1 := Int.tmod_lt_of_pos x hn
  have h2 : -n < Int.tmod x n := by
    have := Int.lt_tmod_of_pos x hn; exact this
  rw [tmod_nn (by omega)]
  rw [Int.add_emod_right]
  have h3 := Int.tmod_add_mul_tdiv x n
  have h4 : x = Int.tmod x n + n * Int.tdiv x n := h3.symm
  conv => rhs; rw [h4]
  rw [Int.add_mul_emod_self_left]
theorem tmod_rng {x n : Int} (hn : 0 < n) : -n < Int.tmod x n ∧ Int.tmod x n < n := ⟨Int.lt_tmod_of_pos x hn, Int.tmod_lt_of_pos x hn⟩
theorem mod_val {a n : Int} (hn : 0 < n) (h1 : n ≤ 1000000) : impl_mod.f a n = some (a % n) := by
  obtain ⟨h2, h3⟩ := tmod_rng (x := a) hn
  unfold impl_mod.f
  rw [if_neg (by omega), w64 (by omega) (by omega), tmod_twice hn]
theorem fit_val {b : Int} (c : Bool) (h : WordB b) {x : Int} (h0 : -4000000000000000 ≤ x) (h1 : x ≤ 4000000000000000) : impl_Word_fit.f b c x = some (fitG b c x) := by
  have hr := Hf_rng h
  unfold impl_Word_fit.f fitG
  rw [ends_val c h]; simp only [Option.bind_some]
  cases c with
  | true =>
    have a1 := Int.emod_nonneg (x + Hf b) (by omega : 2 * Hf b ≠ 0)
    have a2 := Int.emod_lt_of_pos (x + Hf b) (by omega : 0 < 2 * Hf b)
    have e1 : x - -(Hf b) = x + Hf b := by omega
    have e2 : Hf b - 1 - -(Hf b) = 2 * Hf b - 1 := by omega
    have e3 : 2 * Hf b - 1 + 1 = 2 * Hf b := by omega
    rw [if_pos rfl, if_pos rfl, e1, e2, w64 (x := x + Hf b) (by omega) (by omega), w64 (x := 2 * Hf b - 1) (by omega) (by omega), e3, w64 (x := 2 * Hf b) (by omega) (by omega), mod_val (by omega) (by omega)]
    simp only [Option.bind_some]
    rw [w64 (by omega) (by omega)]
    rfl
  | false =>
    rw [if_neg (by simp), if_neg (by simp)]
    unfold mn mx
    congr 1
    by_cases c1 : x < -(Hf b)
    · rw [if_pos c1, if_pos c1, if_neg (by omega)]
    · rw [if_neg c1, if_neg c1]
theorem wrap_mod {x H : Int} (hH : 0 < H) : (x + H) % (2 * H) - H = if x % (2 * H) > H - 1 then x % (2 * H) - 2 * H else x % (2 * H) := by
  have a1 := Int.emod_nonneg x (by omega : 2 * H ≠ 0)
  have a2 := Int.emod_lt_of_pos x (by omega : 0 < 2 * H)
  rw [Int.add_emod, Int.emod_eq_of_lt (a := H) (by omega) (by omega)]
  by_cases c : x % (2 * H) > H - 1
  · rw [if_pos c]
    have e : x % (2 * H) + H = (x % (2 * H) - H) + 2 * H := by omega
    rw [e, Int.add_emod_right, Int.emod_eq_of_lt (by omega) (by omega)]; omega
  · rw [if_neg c, Int.emod_eq_of_lt (by omega) (by omega)]; omega
theorem wdFit_val {b : Int} (c : Bool) (h : WordB b) {x : Int} (h0 : -4000000000000000 ≤ x) (h1 : x ≤ 4000000000000000) : spec_wdFit.f b c x = some (fitG b c x) := by
  have hr := Hf_rng h
  unfold spec_wdFit.f fitG
  cases c with
  | true =>
    obtain ⟨t1, t2⟩ := tmod_rng (x := x) (by omega : 0 < 2 * Hf b)
    have a1 := Int.emod_nonneg x (by omega : 2 * Hf b ≠ 0)
    have a2 := Int.emod_lt_of_pos x (by omega : 0 < 2 * Hf b)
    rw [if_pos rfl, if_pos rfl, if_pos (by have := h.1; omega), shl_all h, if_neg (by omega), high_val true h]
    simp only [Option.bind_some]
    rw [w64 (x := Int.tmod x (2 * Hf b) + 2 * Hf b) (by omega) (by omega), tmod_twice (by omega), wrap_mod (by omega)]
    by_cases c1 : x % (2 * Hf b) > Hf b - 1
    · rw [if_pos c1, if_pos c1, w64 (by omega) (by omega)]
    · rw [if_neg c1, if_neg c1]
  | false =>
    rw [if_neg (by simp), if_neg (by simp), high_val false h, low_val false h]
    simp only [Option.bind_some]
    unfold spec_l1Most.f spec_l1Least.f
    by_cases c1 : x < -(Hf b)
    · rw [if_pos (by omega), if_pos c1]; simp only [Option.bind_some]; rw [if_neg (by omega)]; rfl
    · rw [if_neg c1]
      by_cases c2 : -(Hf b) > x
      · omega
      · rw [if_neg c2]; simp only [Option.bind_some]
        by_cases c3 : Hf b - 1 < x
        · rw [if_pos c3, if_pos c3]; rfl
        · rw [if_neg c3, if_neg c3]; rfl
theorem shr_val {x y : Int} (h0 : 0 ≤ y) (h1 : y ≤ 60) : shr .i64 x y = x / 2 ^ y.toNat := by
  have hb64 : IntKind.i64.bits = 64 := rfl
  unfold shr; rw [Nat.min_eq_left (by rw [hb64]; omega)]
def pw (s : Int) : Int := 2 ^ s.toNat
theorem pw_rng {s : Int} (h0 : 0 ≤ s) (h1 : s ≤ 20) : 1 ≤ pw s ∧ pw s ≤ 1048576 := by
  have e : (((2 : Nat) ^ s.toNat : Nat) : Int) = (2 : Int) ^ s.toNat := Int.natCast_pow 2 _
  have h2 : (2 : Nat) ^ s.toNat ≤ 1048576 := Nat.le_trans (Nat.pow_le_pow_right (n := 2) (by omega) (by omega : s.toNat ≤ 20)) (by decide)
  have h3 : 1 ≤ (2 : Nat) ^ s.toNat := Nat.one_le_two_pow
  unfold pw; rw [← e]
  exact ⟨Int.ofNat_le.mpr h3, Int.ofNat_le.mpr h2⟩
theorem pw_half {s : Int} (h0 : 1 ≤ s) : pw s = 2 * pw (s - 1) := by
  unfold pw
  have e : s.toNat = (s - 1).toNat + 1 := by omega
  rw [e, Int.pow_succ, Int.mul_comm]
/-- a number that is shifted, as each mode rounds -/
def shG (x s m : Int) : Int := if m = 1 ∧ s > 0 then (x + pw (s - 1)) / pw s else if m = 2 ∧ x < 0 then -((-x) / pw s) else x / pw s
theorem shifted_val {x s m : Int} (h0 : 0 ≤ s) (h1 : s ≤ 20) (hx0 : -4000000000000000 ≤ x) (hx1 : x ≤ 4000000000000000) : Evt (fun k => impl_shifted.f k x s m) (shG x s m) := by
  have hp := pw_rng h0 h1
  have hdiv : ∀ y : Int, shr .i64 y s = y / pw s := fun y => shr_val h0 (by omega)
  have hsz : ∀ y : Int, -5000000000000000 ≤ y → y ≤ 5000000000000000 → -5000000000000000 ≤ y / pw s ∧ y / pw s ≤ 5000000000000000 := fun y a b => by
    refine ⟨?_, ?_⟩
    · have : (-5000000000000000 : Int) * pw s ≤ y := by omega
      exact (Int.le_ediv_iff_mul_le (by omega)).mpr this
    · rcases Int.le_total 0 y with c | c
      · exact Int.le_trans (Int.ediv_le_self _ c) b
      · have := Int.ediv_nonpos_of_nonpos_of_neg c (by omega : 0 < pw s); omega
  unfold impl_shifted.f shG
  by_cases m1 : m = 1
  · refine Evt.pos m1 ?_
    by_cases s0 : s > 0
    · have hq := pw_rng (s := s - 1) (by omega) (by omega)
      rw [if_pos ⟨m1, s0⟩]
      refine Evt.step (h := fun _ => some ((x + pw (s - 1)) / pw s)) (fun k => ?_) (Evt.ret _)
      simp only [impl_shifted.j0]
      have hs1 : wrap64 (s - 1) = s - 1 := w64 (by omega) (by omega)
      rw [if_pos (decide_eq_true s0), hs1, if_pos (by omega), if_pos h0, shl1 (by omega) (by omega)]
      show some (shr .i64 (wrap64 (x + pw (s - 1))) s) = _
      rw [w64 (by omega) (by omega), hdiv]
    · rw [if_neg (fun h => s0 h.2), if_neg (fun h => by omega)]
      refine Evt.step (h := fun _ => some (x / pw s)) (fun k => ?_) (Evt.ret _)
      simp only [impl_shifted.j0]
      rw [if_neg (by simp; omega), if_neg (by omega), if_pos h0, hdiv]
  · refine Evt.neg m1 ?_
    rw [if_neg (fun h => m1 h.1)]
    by_cases m2 : m = 2
    · by_cases x0 : x < 0
      · rw [if_pos ⟨m2, x0⟩]
        refine Evt.step (h := fun _ => some (-((-x) / pw s))) (fun k => ?_) (Evt.ret _)
        simp only [impl_shifted.j0]
        have hz := hsz (-x) (by omega) (by omega)
        rw [if_neg (by simp), if_pos m2, if_pos x0, if_pos h0, w64 (x := -x) (by omega) (by omega), hdiv, w64 (by omega) (by omega)]
      · rw [if_neg (fun h => x0 h.2)]
        refine Evt.step (h := fun _ => some (x / pw s)) (fun k => ?_) (Evt.ret _)
        simp only [impl_shifted.j0]
        rw [if_neg (by simp), if_pos m2, if_neg x0, if_pos h0, hdiv]
    · rw [if_neg (fun h => m2 h.1)]
      refine Evt.step (h := fun _ => some (x / pw s)) (fun k => ?_) (Evt.ret _)
      simp only [impl_shifted.j0]
      rw [if_neg (by simp), if_neg m2, if_pos h0, hdiv]
theorem floor_val {x d : Int} (hd : 0 < d) : (if Int.tmod x d < 0 then Int.tdiv x d - 1 else Int.tdiv x d) = x / d := by
  obtain ⟨t1, t2⟩ := tmod_rng (x := x) hd
  have h3 := Int.tmod_add_mul_tdiv x d
  by_cases c : Int.tmod x d < 0
  · rw [if_pos c]
    exact ((Int.ediv_emod_unique (r := Int.tmod x d + d) hd).mpr ⟨by rw [Int.mul_sub]; omega, by omega, by omega⟩).1.symm
  · rw [if_neg c]
    exact ((Int.ediv_emod_unique (r := Int.tmod x d) hd).mpr ⟨h3, by omega, by omega⟩).1.symm
theorem ceil_val {x d : Int} (hd : 0 < d) : -((-x) / d) = if x % d > 0 then x / d + 1 else x / d := by
  have a1 := Int.emod_nonneg x (by omega : d ≠ 0)
  have a2 := Int.emod_lt_of_pos x hd
  have h3 := Int.emod_add_mul_ediv x d
  by_cases c : x % d > 0
  · rw [if_pos c]
    have := ((Int.ediv_emod_unique (a := -x) (q := -(x / d) - 1) (r := d - x % d) hd).mpr ⟨by rw [Int.mul_sub, Int.mul_neg]; omega, by omega, by omega⟩).1
    omega
  · rw [if_neg c]
    have := ((Int.ediv_emod_unique (a := -x) (q := -(x / d)) (r := 0) hd).mpr ⟨by rw [Int.mul_neg]; omega, by omega, by omega⟩).1
    omega
theorem round_val {x h : Int} (hh : 0 < h) : (x + h) / (2 * h) = if 2 * (x % (2 * h)) ≥ 2 * h then x / (2 * h) + 1 else x / (2 * h) := by
  have a1 := Int.emod_nonneg x (by omega : 2 * h ≠ 0)
  have a2 := Int.emod_lt_of_pos x (by omega : 0 < 2 * h)
  have h3 := Int.emod_add_mul_ediv x (2 * h)
  by_cases c : 2 * (x % (2 * h)) ≥ 2 * h
  · rw [if_pos c]
    exact ((Int.ediv_emod_unique (r := x % (2 * h) - h) (by omega)).mpr ⟨by rw [Int.mul_add]; omega, by omega, by omega⟩).1
  · rw [if_neg c]
    exact ((Int.ediv_emod_unique (r := x % (2 * h) + h) (by omega)).mpr ⟨by omega, by omega, by omega⟩).1
theorem wdShift_val {x s m : Int} (h0 : 0 ≤ s) (h1 : s ≤ 20) (hx0 : -4000000000000000 ≤ x) (hx1 : x ≤ 4000000000000000) : Evt (fun k => spec_wdShift.f k x s m) (shG x s m) := by
  have hp := pw_rng h0 h1
  have hsh : shl .i64 1 s = pw s := shl1 h0 (by omega)
  obtain ⟨t1, t2⟩ := tmod_rng (x := x) (by omega : 0 < pw s)
  have a1 := Int.emod_nonneg x (by omega : pw s ≠ 0)
  have a2 := Int.emod_lt_of_pos x (by omega : 0 < pw s)
  have h3 := Int.emod_add_mul_ediv x (pw s)
  have hfl := floor_val (x := x) (by omega : 0 < pw s)
  have hq0 : -5000000000000000 ≤ x / pw s := (Int.le_ediv_iff_mul_le (by omega)).mpr (by omega)
  have hq1 : x / pw s ≤ 5000000000000000 := by
    rcases Int.le_total 0 x with c | c
    · exact Int.le_trans (Int.ediv_le_self _ c) (by omega)
    · have := Int.ediv_nonpos_of_nonpos_of_neg c (by omega : 0 < pw s); omega
  have hj1 : ∀ (b : Bool), (b = true → x / pw s + 1 = shG x s m) → (b = false → (if m = 2 ∧ x < 0 ∧ x % pw s > 0 then x / pw s + 1 else x / pw s) = shG x s m) → Evt (fun k => spec_wdShift.j1 k x m (x / pw s) (x % pw s) b) (shG x s m) := fun b e1 e2 => by
    refine Evt.step (h := fun _ => some (shG x s m)) (fun k => ?_) (Evt.ret _)
    simp only [spec_wdShift.j1]
    rw [w64 (x := x / pw s + 1) (by omega) (by omega)]
    cases b with
    | true => rw [if_pos rfl, e1 rfl]
    | false =>
      rw [← e2 rfl, if_neg (by simp)]
      by_cases m2 : m = 2
      · by_cases x0 : x < 0
        · by_cases r0 : x % pw s > 0
          · rw [if_pos m2, if_pos x0, if_pos r0, if_pos ⟨m2, x0, r0⟩]
          · rw [if_pos m2, if_pos x0, if_neg r0, if_neg (fun h => r0 h.2.2)]
        · rw [if_pos m2, if_neg x0, if_neg (fun h => x0 h.2.1)]
      · rw [if_neg m2, if_neg (fun h => m2 h.1)]
  have hr : wrap64 (x - wrap64 (x / pw s * pw s)) = x % pw s := by
    have e : x / pw s * pw s = x - x % pw s := by rw [Int.mul_comm]; omega
    rw [e, w64 (x := x - x % pw s) (by omega) (by omega), w64 (by omega) (by omega)]; omega
  have hj0 : Evt (fun k => spec_wdShift.j0 k x m (pw s) (x / pw s)) (shG x s m) := by
    refine Evt.step (fun k => by simp only [spec_wdShift.j0]; rw [hr]) ?_
    rw [w64 (x := 2 * (x % pw s)) (by omega) (by omega)]
    by_cases m1 : m = 1
    · refine Evt.pos m1 ?_
      by_cases s0 : s > 0
      · have hh := pw_half (s := s) (by omega)
        have hq := pw_rng (s := s - 1) (by omega) (by omega)
        have hrd := round_val (x := x) (h := pw (s - 1)) (by omega)
        rw [← hh] at hrd
        by_cases c : 2 * (x % pw s) ≥ pw s
        · rw [if_pos c] at hrd
          refine Evt.pos c (hj1 _ (fun _ => ?_) (fun e => ?_))
          · unfold shG; rw [if_pos ⟨m1, s0⟩, hrd]
          · simp at e; omega
        · rw [if_neg c] at hrd
          refine Evt.neg c (hj1 _ (fun e => by simp at e) (fun _ => ?_))
          rw [if_neg (fun h => by have := h.1; omega)]
          unfold shG; rw [if_pos ⟨m1, s0⟩, hrd]
      · have hp1 : pw s = 1 := by
          have : s = 0 := by omega
          subst this; rfl
        refine Evt.neg (by omega) (hj1 _ (fun e => by simp at e) (fun _ => ?_))
        rw [if_neg (fun h => by have := h.1; omega)]
        unfold shG; rw [if_neg (fun h => s0 h.2), if_neg (fun h => by have := h.1; omega)]
    · refine Evt.neg m1 (hj1 _ (fun e => by simp at e) (fun _ => ?_))
      have e : shG x s m = if m = 2 ∧ x < 0 then -((-x) / pw s) else x / pw s := by unfold shG; rw [if_neg (fun h => m1 h.1)]
      rw [e]
      by_cases m2 : m = 2 ∧ x < 0
      · rw [if_pos m2, ceil_val (by omega)]
        by_cases r0 : x % pw s > 0
        · rw [if_pos ⟨m2.1, m2.2, r0⟩, if_pos r0]
        · rw [if_neg (fun h => r0 h.2.2), if_neg r0]
      · rw [if_neg m2, if_neg (fun h => m2 ⟨h.1, h.2.1⟩)]
  unfold spec_wdShift.f
  refine Evt.pos h0 ?_
  rw [hsh]
  refine Evt.neg (by omega) ?_
  have hb := floor_val (x := x) (by omega : 0 < pw s)
  by_cases c : Int.tmod x (pw s) < 0
  · rw [if_pos c] at hfl
    refine Evt.pos c ?_
    rw [w64 (x := Int.tdiv x (pw s)) (by omega) (by omega), hfl, w64 (by omega) (by omega)]
    exact hj0
  · rw [if_neg c] at hfl
    refine Evt.neg c ?_
    rw [hfl, w64 (by omega) (by omega)]
    exact hj0
def shiB (s m : Int) : Bool := inB s 0 20 && inB m 0 2
theorem isShift_val (s m : Int) : impl_isShift.f s m = some (shiB s m) := by
  unfold impl_isShift.f shiB; rw [in_val]; simp only [Option.bind_some]; rw [in_val]
  cases inB s 0 20 <;> simp
theorem wdMode_val (s m : Int) : spec_wdMode.f s m = some (shiB s m) := by
  unfold spec_wdMode.f shiB; rw [l1In_val]; simp only [Option.bind_some]; rw [l1In_val]
  cases inB s 0 20 <;> simp
theorem wf_bytes {l : List Int} (h : ∀ x ∈ l, (Lit.int .u8 x).wf = true) : Bytes l := fun x hx => by
  have := h x hx
  simp [Lit.wf, IntKind.min, IntKind.max, IntKind.bits, IntKind.signed] at this
  omega
theorem mul_bd {a b A B : Int} (h1 : -A ≤ a) (h2 : a ≤ A) (h3 : -B ≤ b) (h4 : b ≤ B) : -(A * B) ≤ a * b ∧ a * b ≤ A * B := by
  have e1 : (a * b).natAbs ≤ A.natAbs * B.natAbs := by
    rw [Int.natAbs_mul]; exact Nat.mul_le_mul (by omega) (by omega)
  have e2 : ((A.natAbs * B.natAbs : Nat) : Int) = A * B := by
    rw [Int.natCast_mul, Int.natAbs_of_nonneg (by omega), Int.natAbs_of_nonneg (by omega)]
  omega
theorem rd_map {n : Nat} (f : Nat → Int) {j : Nat} (h : j < n) : rd ((List.range n).map f) j = f j := by
  rw [rd_lt (by simpa using h)]; simp
theorem div_bd {x B p : Int} (hp : 1 ≤ p) (hB : 0 ≤ B) (h0 : -B ≤ x) (h1 : x ≤ B) : -B ≤ x / p ∧ x / p ≤ B := by
  refine ⟨(Int.le_ediv_iff_mul_le (by omega)).mpr ?_, ?_⟩
  · have : B * 1 ≤ B * p := Int.mul_le_mul_of_nonneg_left hp hB
    rw [Int.neg_mul]; omega
  · rcases Int.le_total 0 x with c | c
    · exact Int.le_trans (Int.ediv_le_self _ c) h1
    · have := Int.ediv_nonpos_of_nonpos_of_neg c (by omega : 0 < p); omega
theorem shG_bd {x s m B : Int} (h0 : 0 ≤ s) (h1 : s ≤ 20) (hB : 0 ≤ B) (hx0 : -B ≤ x) (hx1 : x ≤ B) : -(B + 1048576) ≤ shG x s m ∧ shG x s m ≤ B + 1048576 := by
  have hp := pw_rng h0 h1
  unfold shG
  split
  · rename_i c
    have hq := pw_rng (s := s - 1) (by omega) (by omega)
    exact div_bd hp.1 (by omega) (by omega) (by omega)
  · split
    · have := div_bd (x := -x) hp.1 hB (by omega) (by omega); omega
    · have := div_bd (x := x) hp.1 hB (by omega) (by omega); omega
theorem range_snoc {α : Type} (f : Nat → α) (n : Nat) : (List.range n).map f ++ [f n] = (List.range (n + 1)).map f := by rw [List.range_succ, List.map_append]; rfl
theorem isNumber_val {x : Int} (h0 : -1000000000000 ≤ x) (h1 : x ≤ 1000000000000) : impl_isNumber.f x = some true := by
  unfold impl_isNumber.f; rw [in_val, inB_iff.mpr ⟨h0, h1⟩]; rfl
theorem roundShift_val {x s m : Int} (h : shiB s m = true) (h0 : 0 ≤ s) (h1 : s ≤ 20) (hx0 : -1000000000 ≤ x) (hx1 : x ≤ 1000000000) : Evt (fun q => impl_RoundShift.f q x s m) (shG x s m, true) := by
  unfold impl_RoundShift.f
  refine Evt.bindp (isNumber_val (by omega) (by omega)) (Evt.pos rfl (Evt.bindp (isShift_val s m) (Evt.pos h (Evt.bind (shifted_val h0 h1 (by omega) (by omega)) (Evt.ret _)))))
theorem fitNumber_val {b : Int} (c : Bool) (h : WordB b) {x : Int} (hx0 : -1000000000 ≤ x) (hx1 : x ≤ 1000000000) : impl_FitNumber.f b c x = some (fitG b c x, true) := by
  unfold impl_FitNumber.f
  rw [isWord_val]; simp only [Option.bind_some]
  rw [if_pos (wordB_iff.mpr h), isNumber_val (by omega) (by omega)]; simp only [Option.bind_some]
  rw [if_pos trivial, fit_val c h (by omega) (by omega)]; rfl
theorem pw_mono {s t : Int} (h : s ≤ t) : pw s ≤ pw t := by
  have e1 : (((2 : Nat) ^ s.toNat : Nat) : Int) = (2 : Int) ^ s.toNat := Int.natCast_pow 2 _
  have e2 : (((2 : Nat) ^ t.toNat : Nat) : Int) = (2 : Int) ^ t.toNat := Int.natCast_pow 2 _
  unfold pw; rw [← e1, ← e2]
  exact Int.ofNat_le.mpr (Nat.pow_le_pow_right (n := 2) (by omega) (by omega))
theorem shlp {y : Int} (h0 : 0 ≤ y) (h1 : y ≤ 40) : shl .i64 1 y = pw y := shl1 h0 h1
theorem most_val (a b : Int) : spec_l1Most.f a b = some (mx a b) := by unfold spec_l1Most.f mx; split <;> split <;> first | rfl | (congr 1; omega)
theorem word_some (s : List Int) (p seed : Int) (hs : Bytes s) (h0 : 0 ≤ p) (h1 : p ≤ 800000) :
    ∃ b c p' seed', spec_l1Cur_word.f s p seed = some (b, c, p', seed') ∧ p ≤ p' ∧ p' ≤ p + 6 := by
  obtain ⟨q, p1, s1, e1, g1, g2⟩ := one_some s p seed 12 hs h0 (by omega) (by omega)
  unfold spec_l1Cur_word.f
  rw [e1]; simp only [Option.bind_some]
  cases q with
  | true =>
    obtain ⟨y, p2, s2, e2, m2, g3, g4⟩ := among_some s p1 s1 [(-1), 1, 2, 16, 17, 4611686018427387904] hs (by omega) (by omega) (by simp) (by simp)
    obtain ⟨c, p3, s3, e3, g5, g6⟩ := one_some s p2 s2 2 hs (by omega) (by omega) (by omega)
    rw [if_pos rfl, e2]; simp only [Option.bind_some]; rw [e3]
    exact ⟨_, _, p3, s3, rfl, by omega, by omega⟩
  | false =>
    obtain ⟨y, p2, s2, e2, a2, b2, g3, g4⟩ := pick_some s p1 s1 7 hs (by omega) (by omega) (by omega)
    obtain ⟨c, p3, s3, e3, g5, g6⟩ := one_some s p2 s2 2 hs (by omega) (by omega) (by omega)
    rw [if_neg (by simp), e2]; simp only [Option.bind_some]; rw [e3]
    exact ⟨_, _, p3, s3, rfl, by omega, by omega⟩
theorem fitG_id {b : Int} (c : Bool) (h : WordB b) {x : Int} (h0 : -(Hf b) ≤ x) (h1 : x ≤ Hf b - 1) : fitG b c x = x := by
  have hr := Hf_rng h
  unfold fitG
  split
  · rw [Int.emod_eq_of_lt (by omega) (by omega)]; omega
  · rw [if_neg (by omega), if_neg (by omega)]
theorem size_val {x : Int} (h0 : 0 ≤ x) (h1 : x ≤ 1000000000000) : impl_size.f x = some x := by
  have e : mx x (-x) = x := by unfold mx; split <;> omega
  unfold impl_size.f
  rw [w64 (by omega) (by omega), e]
theorem sizeG_val {x : Int} (h0 : -1000000000000 ≤ x) (h1 : x ≤ 1000000000000) : impl_size.f x = some (mx x (-x)) := by
  unfold impl_size.f
  rw [w64 (by omega) (by omega)]
theorem gcd_loop : ∀ (n : Nat) (x y : Int), y.toNat ≤ n → 0 ≤ x → 0 ≤ y → Evt (fun k => impl_gcd.l0 k x y) ((Nat.gcd x.toNat y.toNat : Nat) : Int)
  | 0, x, y, hn, h0, h1 => by
    have : y = 0 := by omega
    subst this
    refine Evt.step (h := fun _ => some x) (fun k => ?_) ((Evt.ret _).eq ?_)
    · simp only [impl_gcd.l0, if_true]
    · simp; omega
  | n + 1, x, y, hn, h0, h1 => by
    by_cases c : y = 0
    · subst c
      refine Evt.step (h := fun _ => some x) (fun k => ?_) ((Evt.ret _).eq ?_)
      · simp only [impl_gcd.l0, if_true]
      · simp; omega
    · have e : Int.tmod x y = x % y := tmod_nn h0
      have a := Int.emod_nonneg x c
      have b := Int.emod_lt_of_pos x (by omega : 0 < y)
      have ih := gcd_loop n y (x % y) (by omega) h1 a
      refine Evt.step (fun k => ?_) (ih.eq ?_)
      · simp only [impl_gcd.l0]; rw [if_neg c, e]
      · have e2 : (x % y).toNat = x.toNat % y.toNat := Int.toNat_emod h0 h1
        rw [e2, Nat.gcd_comm y.toNat, ← Nat.gcd_rec, Nat.gcd_comm]
theorem gcd_val {x y : Int} (h0 : 0 ≤ x) (h1 : x ≤ 1000000000000) (h2 : 0 ≤ y) (h3 : y ≤ 1000000000000) : Evt (fun k => impl_gcd.f k x y) ((Nat.gcd x.toNat y.toNat : Nat) : Int) := by
  unfold impl_gcd.f
  exact Evt.bindp (size_val h0 h1) (Evt.bindp (size_val h2 h3) (gcd_loop _ x y (Nat.le_refl _) h0 h2))
theorem lowest_val {x y : Int} (h0 : 0 ≤ x) (h1 : x ≤ 1000000000000) (h2 : 0 < y) (h3 : y ≤ 1000000000000) : Evt (fun k => impl_lowest.f k x y) (x / (Nat.gcd x.toNat y.toNat : Nat), y / (Nat.gcd x.toNat y.toNat : Nat)) := by
  have hg : 0 < ((Nat.gcd x.toNat y.toNat : Nat) : Int) := by
    have := Nat.gcd_pos_of_pos_right x.toNat (by omega : 0 < y.toNat); omega
  unfold impl_lowest.f
  refine Evt.bind (gcd_val h0 h1 (by omega) h3) (Evt.neg (by omega) (Evt.neg (by omega) ((Evt.ret _).eq ?_)))
  have a1 := Int.ediv_nonneg h0 (by omega : (0 : Int) ≤ (Nat.gcd x.toNat y.toNat : Nat))
  have a2 := Int.ediv_le_self (Nat.gcd x.toNat y.toNat : Nat) h0
  have b1 := Int.ediv_nonneg (by omega : 0 ≤ y) (by omega : (0 : Int) ≤ (Nat.gcd x.toNat y.toNat : Nat))
  have b2 := Int.ediv_le_self (Nat.gcd x.toNat y.toNat : Nat) (by omega : 0 ≤ y)
  rw [tdiv_nn h0, tdiv_nn (by omega), w64 (by omega) (by omega), w64 (by omega) (by omega)]
theorem ratio_loop {x y : Int} (h0 : 0 ≤ x) (h1 : x ≤ 1000000000000) (h2 : 0 < y) (h3 : y ≤ 1000000000000) : ∀ (n : Nat) (a b : Int), b.toNat ≤ n → 0 ≤ a → 0 ≤ b → Nat.gcd a.toNat b.toNat = Nat.gcd x.toNat y.toNat →
    Evt (fun k => spec_foRatio.l0 k x y a b) (x / (Nat.gcd x.toNat y.toNat : Nat), y / (Nat.gcd x.toNat y.toNat : Nat)) := by
  have hp : 0 < ((Nat.gcd x.toNat y.toNat : Nat) : Int) := by
    have := Nat.gcd_pos_of_pos_right x.toNat (by omega : 0 < y.toNat); omega
  have fin : ∀ a : Int, 0 ≤ a → Nat.gcd a.toNat (0 : Int).toNat = Nat.gcd x.toNat y.toNat → Evt (fun k => spec_foRatio.l0 k x y a 0) (x / (Nat.gcd x.toNat y.toNat : Nat), y / (Nat.gcd x.toNat y.toNat : Nat)) := fun a ha hg => by
    have ea : a = ((Nat.gcd x.toNat y.toNat : Nat) : Int) := by
      rw [show (0 : Int).toNat = 0 from rfl, Nat.gcd_zero_right] at hg
      omega
    have a1 := Int.ediv_nonneg h0 (by omega : (0 : Int) ≤ (Nat.gcd x.toNat y.toNat : Nat))
    have a2 := Int.ediv_le_self (Nat.gcd x.toNat y.toNat : Nat) h0
    have b1 := Int.ediv_nonneg (by omega : 0 ≤ y) (by omega : (0 : Int) ≤ (Nat.gcd x.toNat y.toNat : Nat))
    have b2 := Int.ediv_le_self (Nat.gcd x.toNat y.toNat : Nat) (by omega : 0 ≤ y)
    refine Evt.step (h := fun _ => some (x / (Nat.gcd x.toNat y.toNat : Nat), y / (Nat.gcd x.toNat y.toNat : Nat))) (fun k => ?_) (Evt.ret _)
    simp only [spec_foRatio.l0]
    rw [if_neg (by omega), if_neg (by omega), ea, tdiv_nn h0, tdiv_nn (by omega), w64 (by omega) (by omega), w64 (by omega) (by omega)]
  intro n
  induction n with
  | zero =>
    intro a b hn ha hb hg
    have : b = 0 := by omega
    subst this
    exact fin a ha hg
  | succ n ih =>
    intro a b hn ha hb hg
    by_cases c : b = 0
    · subst c; exact fin a ha hg
    · have e : Int.tmod a b = a % b := tmod_nn ha
      have m1 := Int.emod_nonneg a c
      have m2 := Int.emod_lt_of_pos a (by omega : 0 < b)
      have := ih b (a % b) (by omega) hb m1 (by rw [Int.toNat_emod ha hb, Nat.gcd_comm b.toNat, ← Nat.gcd_rec, Nat.gcd_comm]; exact hg)
      refine Evt.step (fun k => ?_) this
      simp only [spec_foRatio.l0]
      rw [if_pos (by omega), if_neg c, e]
theorem abs_val {x : Int} (h0 : -1000000000000 ≤ x) (h1 : x ≤ 1000000000000) : spec_l1Abs.f x = some (mx x (-x)) := by
  unfold spec_l1Abs.f
  rw [w64 (by omega) (by omega), most_val]; rfl
theorem ratio_val {x y : Int} (h0 : 0 ≤ x) (h1 : x ≤ 1000000000000) (h2 : 0 < y) (h3 : y ≤ 1000000000000) : Evt (fun k => spec_foRatio.f k x y) (x / (Nat.gcd x.toNat y.toNat : Nat), y / (Nat.gcd x.toNat y.toNat : Nat)) := by
  unfold spec_foRatio.f
  refine Evt.neg (by omega) (Evt.step (fun k => by simp only [spec_foRatio.j0]; rfl) ?_)
  refine Evt.bindp (abs_val (by omega) h1) ?_
  have e : mx x (-x) = x := by unfold mx; split <;> omega
  rw [e]
  exact ratio_loop h0 h1 h2 h3 _ x y (Nat.le_refl _) h0 (by omega) rfl
def firB (a sh m b : Int) : Bool := inB a (-1024) 1024 && (inB sh 0 10 && inB m 0 2) && wordB b
structure Fir (a sh m b : Int) : Prop where
  a0 : -1024 ≤ a
  a1 : a ≤ 1024
  s0 : 0 ≤ sh
  s10 : sh ≤ 10
  m : inB m 0 2 = true
  w : WordB b
theorem fir_iff {a sh m b : Int} (h : firB a sh m b = true) : Fir a sh m b := by
  unfold firB at h
  simp only [Bool.and_eq_true] at h
  obtain ⟨⟨h1, h2, h3⟩, h4⟩ := h
  have := inB_iff.mp h1
  have := inB_iff.mp h2
  exact ⟨by omega, by omega, by omega, by omega, h3, wordB_iff.mp h4⟩
theorem Fir.s20 {a sh m b : Int} (h : Fir a sh m b) : sh ≤ 20 := by have := h.s10; omega
theorem Fir.shi {a sh m b : Int} (h : Fir a sh m b) : shiB sh m = true := by
  unfold shiB; rw [h.m, inB_iff.mpr ⟨h.s0, h.s20⟩]; rfl
theorem isFactor_val (a : Int) : impl_isFactor.f a = some (inB a (-1024) 1024) := by unfold impl_isFactor.f; rw [in_val]; rfl
theorem isScale_val (sh m : Int) : impl_isScale.f sh m = some (inB sh 0 10 && inB m 0 2) := by
  unfold impl_isScale.f; rw [in_val]; simp only [Option.bind_some]; rw [in_val]
  cases inB sh 0 10 <;> simp
theorem isFirst_val (a sh m b : Int) (c : Bool) : impl_isFirst.f a sh m b c = some (firB a sh m b) := by
  unfold impl_isFirst.f firB
  rw [isFactor_val]; simp only [Option.bind_some]; rw [isScale_val]; simp only [Option.bind_some]; rw [isWord_val]
  cases inB a (-1024) 1024 <;> cases (inB sh 0 10 && inB m 0 2) <;> simp
theorem foGood_val (a sh m b : Int) (c : Bool) : spec_foGood.f a sh m b c = some (firB a sh m b) := by
  unfold spec_foGood.f firB
  rw [l1In_val]; simp only [Option.bind_some]; rw [l1In_val]; simp only [Option.bind_some]; rw [wdMode_val]; simp only [Option.bind_some]; rw [wdGood_val]
  cases inB a (-1024) 1024
  · simp
  · by_cases h : inB sh 0 10 = true
    · have h' := inB_iff.mp h
      have e : shiB sh m = inB m 0 2 := by unfold shiB; rw [inB_iff.mpr ⟨h'.1, by omega⟩]; rfl
      rw [h, e]; cases inB m 0 2 <;> simp
    · simp only [Bool.not_eq_true] at h; rw [h]; simp
theorem IsFirst_val (a sh m b : Int) (c : Bool) : impl_IsFirst.f a sh m b c = some (firB a sh m b) := by unfold impl_IsFirst.f; rw [isFirst_val]; rfl
theorem specIsFirst_val (a sh m b : Int) (c : Bool) : spec_IsFirst.f a sh m b c = some (firB a sh m b) := by unfold spec_IsFirst.f; rw [foGood_val]; rfl
def hasW (b y : Int) : Bool := inB y (-(Hf b)) (Hf b - 1)
theorem hasW_iff {b y : Int} : hasW b y = true ↔ -(Hf b) ≤ y ∧ y ≤ Hf b - 1 := inB_iff
theorem Wordhas_val {b : Int} (c : Bool) (h : WordB b) (y : Int) : impl_Word_has.f b c y = some (hasW b y) := by
  unfold impl_Word_has.f; rw [ends_val c h]; simp only [Option.bind_some]; rw [in_val]; rfl
theorem wdIn_val (b : Int) (c : Bool) (y : Int) : spec_wdIn.f b c y = some (wordB b && hasW b y) := by
  unfold spec_wdIn.f; rw [wdGood_val]; simp only [Option.bind_some]
  by_cases h : wordB b = true
  · have W := wordB_iff.mp h
    rw [if_pos h, low_val c W, high_val c W, h]; simp only [Option.bind_some]; rw [l1In_val]; rfl
  · rw [if_neg h, Bool.eq_false_iff.mpr h]; rfl
def atB (a sh m b y : Int) : Bool := firB a sh m b && hasW b y
theorem isAt_val (a sh m b : Int) (c : Bool) (y : Int) : impl_First_isAt.f a sh m b c y = some (atB a sh m b y) := by
  unfold impl_First_isAt.f atB; rw [isFirst_val]; simp only [Option.bind_some]
  by_cases h : firB a sh m b = true
  · rw [if_pos h, Wordhas_val c (fir_iff h).w, h]; rfl
  · rw [if_neg h, Bool.eq_false_iff.mpr h]; rfl
theorem foAsked_val (a sh m b : Int) (c : Bool) (y x : Int) : spec_foAsked.f a sh m b c y x = some (atB a sh m b y && inB x (-100000) 100000) := by
  unfold spec_foAsked.f atB; rw [foGood_val]; simp only [Option.bind_some]; rw [wdIn_val]; simp only [Option.bind_some]; rw [l1In_val]
  by_cases h : firB a sh m b = true
  · have W := wordB_iff.mpr (fir_iff h).w
    rw [h, W]; cases hasW b y <;> simp
  · rw [Bool.eq_false_iff.mpr h]; rfl
theorem at_iff {a sh m b y : Int} (h : atB a sh m b y = true) : Fir a sh m b ∧ -(Hf b) ≤ y ∧ y ≤ Hf b - 1 := by
  unfold atB at h; rw [Bool.and_eq_true] at h
  exact ⟨fir_iff h.1, hasW_iff.mp h.2⟩
theorem isSample_val (x : Int) : impl_isSample.f x = some (inB x (-100000) 100000) := by unfold impl_isSample.f; rw [in_val]; rfl
/-- what a step makes before it is fitted -/
def rawG (a sh m y x : Int) : Int := shG (a * y) sh m + x
theorem rawG_bd {a sh m b y x : Int} (F : Fir a sh m b) (hy : -32768 ≤ y ∧ y ≤ 32768) (hx : -100000 ≤ x ∧ x ≤ 100000) : -40000000 ≤ rawG a sh m y x ∧ rawG a sh m y x ≤ 40000000 := by
  have h := mul_bd (A := 1024) (B := 32768) F.a0 F.a1 hy.1 hy.2
  have := shG_bd (m := m) F.s0 F.s20 (by omega) h.1 h.2
  unfold rawG; omega
theorem raw_val {a sh m b : Int} (c : Bool) (F : Fir a sh m b) {y x : Int} (hy : -32768 ≤ y ∧ y ≤ 32768) (hx : -100000 ≤ x ∧ x ≤ 100000) : Evt (fun k => impl_First_raw.f k a sh m b c y x) (rawG a sh m y x) := by
  have h := mul_bd (A := 1024) (B := 32768) F.a0 F.a1 hy.1 hy.2
  have hs := shG_bd (m := m) F.s0 F.s20 (by omega) h.1 h.2
  have e : wrap64 (a * y) = a * y := by generalize a * y = p at *; exact w64 (by omega) (by omega)
  unfold impl_First_raw.f
  rw [e]
  clear e
  refine Evt.bind (shifted_val F.s0 F.s20 (by omega) (by omega)) ((Evt.ret _).eq ?_)
  unfold rawG
  exact w64 (by omega) (by omega)
theorem foRaw_val {a sh m b : Int} (c : Bool) (F : Fir a sh m b) {y x : Int} (hy : -32768 ≤ y ∧ y ≤ 32768) (hx : -100000 ≤ x ∧ x ≤ 100000) : Evt (fun k => spec_foRaw.f k a sh m b c y x) (rawG a sh m y x) := by
  have h := mul_bd (A := 1024) (B := 32768) F.a0 F.a1 hy.1 hy.2
  have hs := shG_bd (m := m) F.s0 F.s20 (by omega) h.1 h.2
  have e : wrap64 (a * y) = a * y := by generalize a * y = p at *; exact w64 (by omega) (by omega)
  unfold spec_foRaw.f
  rw [e]
  clear e
  refine Evt.bind (wdShift_val F.s0 F.s20 (by omega) (by omega)) ((Evt.ret _).eq ?_)
  unfold rawG
  exact w64 (by omega) (by omega)
def fstG (a sh m b : Int) (c : Bool) (y x : Int) : Int := fitG b c (rawG a sh m y x)
theorem step_val {a sh m b : Int} (c : Bool) (F : Fir a sh m b) {y x : Int} (hy : -32768 ≤ y ∧ y ≤ 32768) (hx : -100000 ≤ x ∧ x ≤ 100000) : Evt (fun k => impl_First_step.f k a sh m b c y x) (fstG a sh m b c y x) := by
  have hr := rawG_bd F hy hx
  unfold impl_First_step.f
  exact Evt.bind (raw_val c F hy hx) (Evt.bindp (fit_val c F.w (by omega) (by omega)) (Evt.ret _))
theorem foStep_val {a sh m b : Int} (c : Bool) (F : Fir a sh m b) {y x : Int} (hy : -32768 ≤ y ∧ y ≤ 32768) (hx : -100000 ≤ x ∧ x ≤ 100000) : Evt (fun k => spec_foStep.f k a sh m b c y x) (fstG a sh m b c y x) := by
  have hr := rawG_bd F hy hx
  unfold spec_foStep.f
  exact Evt.bind (foRaw_val c F hy hx) (Evt.bindp (wdFit_val c F.w (by omega) (by omega)) (Evt.ret _))
theorem has_word {b y : Int} (W : WordB b) (h : -(Hf b) ≤ y ∧ y ≤ Hf b - 1) : -32768 ≤ y ∧ y ≤ 32768 := by have := Hf_rng W; omega
/-- the number behind n samples -/
def rnG (a sh m b : Int) (c : Bool) (y : Int) (s : List Int) : Nat → Int
  | 0 => y
  | n + 1 => fstG a sh m b c (rnG a sh m b c y s n) (rd s n)
theorem rnG_has {a sh m b : Int} (c : Bool) (F : Fir a sh m b) {y : Int} (hy : -(Hf b) ≤ y ∧ y ≤ Hf b - 1) (s : List Int) : ∀ n, -(Hf b) ≤ rnG a sh m b c y s n ∧ rnG a sh m b c y s n ≤ Hf b - 1
  | 0 => hy
  | n + 1 => fitG_rng c _ F.w
/-- how often fitting changes the number in the first n steps -/
def fcG (a sh m b : Int) (c : Bool) (y : Int) (s : List Int) : Nat → Nat
  | 0 => 0
  | n + 1 => if hasW b (rawG a sh m (rnG a sh m b c y s n) (rd s n)) = true then fcG a sh m b c y s n else fcG a sh m b c y s n + 1
theorem fcG_le (a sh m b : Int) (c : Bool) (y : Int) (s : List Int) : ∀ n, fcG a sh m b c y s n ≤ n
  | 0 => Nat.le_refl _
  | n + 1 => by have := fcG_le a sh m b c y s n; simp only [fcG]; split <;> omega
theorem fit_has {b : Int} (c : Bool) (W : WordB b) (x : Int) : fitG b c x = x ↔ hasW b x = true := by
  rw [hasW_iff]
  constructor
  · intro h; have := fitG_rng c x W; omega
  · intro h; exact fitG_id c W h.1 h.2
def runL (a sh m b : Int) (c : Bool) (y : Int) (s : List Int) (n : Nat) : List Int := (List.range n).map (fun i : Nat => rnG a sh m b c y s (i + 1))
theorem run_loop {a sh m b : Int} (c : Bool) (F : Fir a sh m b) {y : Int} (hy : -(Hf b) ≤ y ∧ y ≤ Hf b - 1) {s : List Int} (hs : ∀ x ∈ s, -100000 ≤ x ∧ x ≤ 100000) (hl : s.length ≤ 1000) :
    ∀ (d n : Nat), n + d = s.length → Evt (fun k => impl_First_run.l0 k (rnG a sh m b c y s n) (runL a sh m b c y s n) s s.length n a sh m b c) (runL a sh m b c y s s.length)
  | 0, n, hd => by
    have : n = s.length := by omega
    subst this
    refine Evt.step (h := fun _ => some (runL a sh m b c y s s.length)) (fun k => ?_) (Evt.ret _)
    simp only [impl_First_run.l0]
    rw [if_neg (by omega)]
  | d + 1, n, hd => by
    have ih := run_loop c F hy hs hl d (n + 1) (by omega)
    have hn := has_word F.w (rnG_has c F hy s n)
    have hx := hs _ (rd_mem (l := s) (i := n) (by omega) (by omega))
    refine Evt.step (fun k => by simp only [impl_First_run.l0]; rw [if_pos (by omega), if_pos (by omega), if_pos (by omega)]) ?_
    have hl1 : (runL a sh m b c y s n).length < 17592186044416 := by simp [runL]; omega
    refine Evt.bind (step_val c F hn hx) (Evt.pos hl1 ?_)
    have e : wrap64 ((n : Int) + 1) = ((n + 1 : Nat) : Int) := by rw [w64 (by omega) (by omega)]; rfl
    rw [e, show fstG a sh m b c (rnG a sh m b c y s n) (rd s n) = rnG a sh m b c y s (n + 1) from rfl]
    unfold runL at ih ⊢
    rw [range_snoc (fun i : Nat => rnG a sh m b c y s (i + 1)) n]
    exact ih
theorem run_val {a sh m b : Int} (c : Bool) (F : Fir a sh m b) {y : Int} (hy : -(Hf b) ≤ y ∧ y ≤ Hf b - 1) {s : List Int} (hs : ∀ x ∈ s, -100000 ≤ x ∧ x ≤ 100000) (hl : s.length ≤ 1000) : Evt (fun k => impl_First_run.f k a sh m b c y s) (runL a sh m b c y s s.length) :=
  run_loop c F hy hs hl s.length 0 (by omega)
theorem foRun_loop {a sh m b : Int} (c : Bool) (F : Fir a sh m b) {y : Int} (hy : -(Hf b) ≤ y ∧ y ≤ Hf b - 1) {s : List Int} (hs : ∀ x ∈ s, -100000 ≤ x ∧ x ≤ 100000) (hl : s.length ≤ 1000) :
    ∀ (d n : Nat), n + d = s.length → Evt (fun k => spec_foRun.l0 k (rnG a sh m b c y s n) (runL a sh m b c y s n) (fcG a sh m b c y s n) s s.length n a sh m b c) (runL a sh m b c y s s.length, (fcG a sh m b c y s s.length : Int))
  | 0, n, hd => by
    have : n = s.length := by omega
    subst this
    refine Evt.step (h := fun _ => some (runL a sh m b c y s s.length, (fcG a sh m b c y s s.length : Int))) (fun k => ?_) (Evt.ret _)
    simp only [spec_foRun.l0]
    rw [if_neg (by omega)]
  | d + 1, n, hd => by
    have ih := foRun_loop c F hy hs hl d (n + 1) (by omega)
    have hn := has_word F.w (rnG_has c F hy s n)
    have hx := hs _ (rd_mem (l := s) (i := n) (by omega) (by omega))
    have hr := rawG_bd F hn hx
    have hf := fcG_le a sh m b c y s n
    refine Evt.step (fun k => by simp only [spec_foRun.l0]; rw [if_pos (by omega), if_pos (by omega), if_pos (by omega)]) ?_
    refine Evt.bind (foRaw_val c F hn hx) (Evt.bindp (wdFit_val c F.w (by omega) (by omega)) ?_)
    have e : wrap64 ((n : Int) + 1) = ((n + 1 : Nat) : Int) := by rw [w64 (by omega) (by omega)]; rfl
    have e2 : wrap64 ((fcG a sh m b c y s n : Int) + 1) = ((fcG a sh m b c y s n + 1 : Nat) : Int) := by clear e; rw [w64 (by omega) (by omega)]; rfl
    rw [e, e2]
    clear e e2
    have es : fitG b c (rawG a sh m (rnG a sh m b c y s n) (rd s n)) = rnG a sh m b c y s (n + 1) := rfl
    have hl1 : (runL a sh m b c y s n).length < 17592186044416 := by simp [runL]; omega
    have er : runL a sh m b c y s n ++ [rnG a sh m b c y s (n + 1)] = runL a sh m b c y s (n + 1) := range_snoc (fun i : Nat => rnG a sh m b c y s (i + 1)) n
    have hfit := fit_has c F.w (rawG a sh m (rnG a sh m b c y s n) (rd s n))
    by_cases h : fitG b c (rawG a sh m (rnG a sh m b c y s n) (rd s n)) = rawG a sh m (rnG a sh m b c y s n) (rd s n)
    · have e3 : fcG a sh m b c y s (n + 1) = fcG a sh m b c y s n := by simp only [fcG]; rw [if_pos (hfit.mp h)]
      rw [e3] at ih
      refine Evt.pos h (Evt.pos hl1 ?_)
      rw [es, er]
      exact ih
    · have e3 : fcG a sh m b c y s (n + 1) = fcG a sh m b c y s n + 1 := by simp only [fcG]; rw [if_neg (fun h' => h (hfit.mpr h'))]
      rw [e3] at ih
      refine Evt.neg h (Evt.pos hl1 ?_)
      rw [es, er]
      exact ih
theorem foRun_val {a sh m b : Int} (c : Bool) (F : Fir a sh m b) {y : Int} (hy : -(Hf b) ≤ y ∧ y ≤ Hf b - 1) {s : List Int} (hs : ∀ x ∈ s, -100000 ≤ x ∧ x ≤ 100000) (hl : s.length ≤ 1000) :
    Evt (fun k => spec_foRun.f k a sh m b c y s) (runL a sh m b c y s s.length, (fcG a sh m b c y s s.length : Int)) := foRun_loop c F hy hs hl s.length 0 (by omega)
/-- may a run be made -/
def runB (a sh m b y : Int) (s : List Int) : Bool := atB a sh m b y && sig s
structure Run (a sh m b y : Int) (s : List Int) : Prop where
  F : Fir a sh m b
  y : -(Hf b) ≤ y ∧ y ≤ Hf b - 1
  len : s.length ≤ 64
  s : ∀ x ∈ s, -100000 ≤ x ∧ x ≤ 100000
theorem run_iff {a sh m b y : Int} {s : List Int} (h : runB a sh m b y s = true) : Run a sh m b y s := by
  unfold runB at h; rw [Bool.and_eq_true] at h
  have h1 := at_iff h.1
  have h2 := sig_iff.mp h.2
  exact ⟨h1.1, h1.2, h2.1, h2.2⟩
def runR (a sh m b : Int) (c : Bool) (y : Int) (s : List Int) : List Int × Bool := if runB a sh m b y s = true then (runL a sh m b c y s s.length, true) else ([], false)
theorem RunFirst_val (a sh m b : Int) (c : Bool) (y : Int) (s : List Int) : Evt (fun k => impl_RunFirst.f k a sh m b c y s) (runR a sh m b c y s) := by
  unfold impl_RunFirst.f runR runB
  refine Evt.bindp (isAt_val a sh m b c y) ?_
  by_cases h1 : atB a sh m b y = true
  · refine Evt.pos h1 (Evt.bindp (isSignal_val s) ?_)
    by_cases h2 : sig s = true
    · have R := run_iff (a := a) (sh := sh) (m := m) (b := b) (y := y) (s := s) (by unfold runB; rw [h1, h2]; rfl)
      rw [h1, h2]
      refine Evt.pos rfl (Evt.bind (run_val c R.F R.y R.s (by have := R.len; omega)) (Evt.ret _))
    · rw [Bool.eq_false_iff.mpr h2]; exact Evt.neg (by simp) ((Evt.ret _).eq (by simp))
  · rw [Bool.eq_false_iff.mpr h1]; exact Evt.neg (by simp) (Evt.ret _)
theorem askedz (a sh m b : Int) (c : Bool) (y : Int) : spec_foAsked.f a sh m b c y 0 = some (atB a sh m b y) := by
  rw [foAsked_val, show inB 0 (-100000) 100000 = true from rfl, Bool.and_true]
theorem specRunFirst_val (a sh m b : Int) (c : Bool) (y : Int) (s : List Int) : Evt (fun k => spec_RunFirst.f k a sh m b c y s) (runR a sh m b c y s) := by
  unfold spec_RunFirst.f runR runB
  refine Evt.bindp (askedz a sh m b c y) ?_
  by_cases h1 : atB a sh m b y = true
  · refine Evt.pos h1 (Evt.bind (wdSignal_val s) ?_)
    by_cases h2 : sig s = true
    · have R := run_iff (a := a) (sh := sh) (m := m) (b := b) (y := y) (s := s) (by unfold runB; rw [h1, h2]; rfl)
      rw [h1, h2]
      refine Evt.pos rfl (Evt.bind (foRun_val c R.F R.y R.s (by have := R.len; omega)) (Evt.ret _))
    · rw [Bool.eq_false_iff.mpr h2]; exact Evt.neg (by simp) ((Evt.ret _).eq (by simp))
  · rw [Bool.eq_false_iff.mpr h1]; exact Evt.neg (by simp) (Evt.ret _)
def fitsR (a sh m b : Int) (c : Bool) (y : Int) (s : List Int) : Int × Bool := if runB a sh m b y s = true then ((fcG a sh m b c y s s.length : Int), true) else (0, false)
theorem count_loop {a sh m b : Int} (c : Bool) (F : Fir a sh m b) {y : Int} (hy : -(Hf b) ≤ y ∧ y ≤ Hf b - 1) {s : List Int} (hs : ∀ x ∈ s, -100000 ≤ x ∧ x ≤ 100000) (hl : s.length ≤ 1000) :
    ∀ (d n : Nat), n + d = s.length → Evt (fun k => impl_CountFits.l0 k (rnG a sh m b c y s n) (fcG a sh m b c y s n) s s.length n a sh m b c) ((fcG a sh m b c y s s.length : Int), true)
  | 0, n, hd => by
    have : n = s.length := by omega
    subst this
    refine Evt.step (h := fun _ => some ((fcG a sh m b c y s s.length : Int), true)) (fun k => ?_) (Evt.ret _)
    simp only [impl_CountFits.l0]
    rw [if_neg (by omega)]
  | d + 1, n, hd => by
    have ih := count_loop c F hy hs hl d (n + 1) (by omega)
    have hn := has_word F.w (rnG_has c F hy s n)
    have hx := hs _ (rd_mem (l := s) (i := n) (by omega) (by omega))
    have hf := fcG_le a sh m b c y s n
    refine Evt.step (fun k => by simp only [impl_CountFits.l0]; rw [if_pos (by omega), if_pos (by omega), if_pos (by omega)]) ?_
    refine Evt.bind (raw_val c F hn hx) (Evt.bindp (Wordhas_val c F.w _) ?_)
    have e : wrap64 ((n : Int) + 1) = ((n + 1 : Nat) : Int) := by rw [w64 (by omega) (by omega)]; rfl
    have e2 : wrap64 ((fcG a sh m b c y s n : Int) + 1) = ((fcG a sh m b c y s n + 1 : Nat) : Int) := by clear e; rw [w64 (by omega) (by omega)]; rfl
    rw [e, e2]
    clear e e2
    by_cases h : hasW b (rawG a sh m (rnG a sh m b c y s n) (rd s n)) = true
    · have e3 : fcG a sh m b c y s (n + 1) = fcG a sh m b c y s n := by simp only [fcG]; rw [if_pos h]
      rw [e3] at ih
      exact Evt.pos h (Evt.bind (step_val c F hn hx) ih)
    · have e3 : fcG a sh m b c y s (n + 1) = fcG a sh m b c y s n + 1 := by simp only [fcG]; rw [if_neg h]
      rw [e3] at ih
      exact Evt.neg h (Evt.bind (step_val c F hn hx) ih)
theorem CountFits_val (a sh m b : Int) (c : Bool) (y : Int) (s : List Int) : Evt (fun k => impl_CountFits.f k a sh m b c y s) (fitsR a sh m b c y s) := by
  unfold impl_CountFits.f fitsR runB
  refine Evt.bindp (isAt_val a sh m b c y) ?_
  by_cases h1 : atB a sh m b y = true
  · refine Evt.pos h1 (Evt.bindp (isSignal_val s) ?_)
    by_cases h2 : sig s = true
    · have R := run_iff (a := a) (sh := sh) (m := m) (b := b) (y := y) (s := s) (by unfold runB; rw [h1, h2]; rfl)
      rw [h1, h2]
      refine Evt.step (fun k => by simp only [impl_CountFits.j0]; rw [if_neg (by simp)]) ?_
      exact count_loop c R.F R.y R.s (by have := R.len; omega) s.length 0 (by omega)
    · rw [Bool.eq_false_iff.mpr h2]
      exact Evt.step (fun k => by simp only [impl_CountFits.j0]; rw [if_pos (by simp)]) ((Evt.ret _).eq (by simp))
  · rw [Bool.eq_false_iff.mpr h1]
    exact Evt.neg (by simp) (Evt.step (fun k => by simp only [impl_CountFits.j0]; rw [if_pos trivial]) ((Evt.ret _).eq (by simp)))
theorem specCountFits_val (a sh m b : Int) (c : Bool) (y : Int) (s : List Int) : Evt (fun k => spec_CountFits.f k a sh m b c y s) (fitsR a sh m b c y s) := by
  unfold spec_CountFits.f fitsR runB
  refine Evt.bindp (askedz a sh m b c y) ?_
  by_cases h1 : atB a sh m b y = true
  · refine Evt.pos h1 (Evt.bind (wdSignal_val s) ?_)
    by_cases h2 : sig s = true
    · have R := run_iff (a := a) (sh := sh) (m := m) (b := b) (y := y) (s := s) (by unfold runB; rw [h1, h2]; rfl)
      rw [h1, h2]
      refine Evt.pos rfl (Evt.bind (foRun_val c R.F R.y R.s (by have := R.len; omega)) (Evt.ret _))
    · rw [Bool.eq_false_iff.mpr h2]; exact Evt.neg (by simp) ((Evt.ret _).eq (by simp))
  · rw [Bool.eq_false_iff.mpr h1]; exact Evt.neg (by simp) (Evt.ret _)
def stepR (a sh m b : Int) (c : Bool) (y x : Int) : Int × Bool := if (atB a sh m b y && inB x (-100000) 100000) = true then (fstG a sh m b c y x, true) else (0, false)
theorem FirstStep_val (a sh m b : Int) (c : Bool) (y x : Int) : Evt (fun k => impl_FirstStep.f k a sh m b c y x) (stepR a sh m b c y x) := by
  unfold impl_FirstStep.f stepR
  refine Evt.bindp (isAt_val a sh m b c y) ?_
  by_cases h1 : atB a sh m b y = true
  · refine Evt.pos h1 (Evt.bindp (isSample_val x) ?_)
    by_cases h2 : inB x (-100000) 100000 = true
    · have A := at_iff h1
      rw [h1, h2]
      exact Evt.pos rfl (Evt.bind (step_val c A.1 (has_word A.1.w A.2) (inB_iff.mp h2)) (Evt.ret _))
    · rw [Bool.eq_false_iff.mpr h2]; exact Evt.neg (by simp) ((Evt.ret _).eq (by simp))
  · rw [Bool.eq_false_iff.mpr h1]; exact Evt.neg (by simp) (Evt.ret _)
theorem specFirstStep_val (a sh m b : Int) (c : Bool) (y x : Int) : Evt (fun k => spec_FirstStep.f k a sh m b c y x) (stepR a sh m b c y x) := by
  unfold spec_FirstStep.f stepR
  refine Evt.bindp (foAsked_val a sh m b c y x) ?_
  by_cases h : (atB a sh m b y && inB x (-100000) 100000) = true
  · have h' := h
    rw [Bool.and_eq_true] at h'
    have A := at_iff h'.1
    rw [h]
    exact Evt.pos rfl (Evt.bind (foStep_val c A.1 (has_word A.1.w A.2) (inB_iff.mp h'.2)) (Evt.ret _))
  · rw [Bool.eq_false_iff.mpr h]; exact Evt.neg (by simp) (Evt.ret _)
theorem rep_all (n : Nat) (x : Int) (h : -100000 ≤ x ∧ x ≤ 100000) : ∀ z ∈ (List.replicate n (0 : Int)).set 0 x, -100000 ≤ z ∧ z ≤ 100000 := fun z hz => by
  rcases List.mem_or_eq_of_mem_set hz with h1 | h1
  · rw [(List.mem_replicate.mp h1).2]; omega
  · subst h1; exact h
/-- a sample and zeros behind it -/
def impS (x n : Int) : List Int := if n > 0 then (List.replicate n.toNat 0).set 0 x else List.replicate n.toNat 0
theorem impS_len (x n : Int) : (impS x n).length = n.toNat := by unfold impS; split <;> simp
theorem impS_all (x n : Int) (h : -100000 ≤ x ∧ x ≤ 100000) : ∀ z ∈ impS x n, -100000 ≤ z ∧ z ≤ 100000 := by
  unfold impS; split
  · exact rep_all _ x h
  · intro z hz; rw [(List.mem_replicate.mp hz).2]; omega
def impB (a sh m b x n : Int) : Bool := firB a sh m b && inB x (-100000) 100000 && inB n 0 64
def impR (a sh m b : Int) (c : Bool) (x n : Int) : List Int × Bool := if impB a sh m b x n = true then (runL a sh m b c 0 (impS x n) n.toNat, true) else ([], false)
theorem zero_has {b : Int} (W : WordB b) : -(Hf b) ≤ 0 ∧ 0 ≤ Hf b - 1 := by have := Hf_rng W; omega
theorem implimp_j {a sh m b : Int} (c : Bool) (F : Fir a sh m b) {x n : Int} (hx : -100000 ≤ x ∧ x ≤ 100000) (h0 : 0 ≤ n) (h1 : n ≤ 64) : Evt (fun k => impl_ImpulseOf.j0 k x n false a sh m b c) (runL a sh m b c 0 (impS x n) n.toNat, true) := by
  have hall := impS_all x n hx
  have hlen := impS_len x n
  refine Evt.step (fun k => by simp only [impl_ImpulseOf.j0]; rw [if_neg (by simp), if_pos h0, if_pos (by omega)]) ?_
  refine Evt.bindp rfl ?_
  by_cases c1 : n > 0
  · have e : (List.replicate n.toNat (0 : Int)).set (0 : Int).toNat x = impS x n := by unfold impS; rw [if_pos c1]; rfl
    rw [e]
    refine Evt.pos c1 (Evt.pos (by simp; omega) (Evt.bind (run_val c F (zero_has F.w) hall (by omega)) ((Evt.ret _).eq ?_)))
    rw [hlen]
  · have e : List.replicate n.toNat (0 : Int) = impS x n := by unfold impS; rw [if_neg c1]
    rw [e]
    refine Evt.neg c1 (Evt.bind (run_val c F (zero_has F.w) hall (by omega)) ((Evt.ret _).eq ?_))
    rw [hlen]
theorem specimp_j {a sh m b : Int} (c : Bool) (F : Fir a sh m b) {x n : Int} (hx : -100000 ≤ x ∧ x ≤ 100000) (h0 : 0 ≤ n) (h1 : n ≤ 64) : Evt (fun k => spec_ImpulseOf.j0 k x n false a sh m b c) (runL a sh m b c 0 (impS x n) n.toNat, true) := by
  have hall := impS_all x n hx
  have hlen := impS_len x n
  refine Evt.step (fun k => by simp only [spec_ImpulseOf.j0]; rw [if_neg (by simp), if_pos h0, if_pos (by omega)]) ?_
  refine Evt.bindp rfl ?_
  by_cases c1 : n > 0
  · have e : (List.replicate n.toNat (0 : Int)).set (0 : Int).toNat x = impS x n := by unfold impS; rw [if_pos c1]; rfl
    rw [e]
    refine Evt.pos c1 (Evt.pos (by simp; omega) (Evt.bind (foRun_val c F (zero_has F.w) hall (by omega)) ((Evt.ret _).eq ?_)))
    rw [hlen]
  · have e : List.replicate n.toNat (0 : Int) = impS x n := by unfold impS; rw [if_neg c1]
    rw [e]
    refine Evt.neg c1 (Evt.bind (foRun_val c F (zero_has F.w) hall (by omega)) ((Evt.ret _).eq ?_))
    rw [hlen]
theorem ImpulseOf_val (a sh m b : Int) (c : Bool) (x n : Int) : Evt (fun k => impl_ImpulseOf.f k a sh m b c x n) (impR a sh m b c x n) := by
  have no : Evt (fun k => impl_ImpulseOf.j0 k x n true a sh m b c) ([], false) := Evt.step (fun k => by simp only [impl_ImpulseOf.j0]; rw [if_pos trivial]) (Evt.ret _)
  unfold impl_ImpulseOf.f impR impB
  refine Evt.bindp (isFirst_val a sh m b c) ?_
  by_cases h1 : firB a sh m b = true
  · refine Evt.pos h1 (Evt.bindp (isSample_val x) ?_)
    by_cases h2 : inB x (-100000) 100000 = true
    · refine Evt.pos h2 (Evt.bindp (in_val _ _ _) ?_)
      by_cases h3 : inB n 0 64 = true
      · rw [h1, h2, h3]
        exact implimp_j c (fir_iff h1) (inB_iff.mp h2) (inB_iff.mp h3).1 (inB_iff.mp h3).2
      · rw [Bool.eq_false_iff.mpr h3]; exact no.eq (by simp)
    · rw [Bool.eq_false_iff.mpr h2]; exact Evt.neg (by simp) (no.eq (by simp))
  · rw [Bool.eq_false_iff.mpr h1]; exact Evt.neg (by simp) (no.eq (by simp))
theorem specImpulseOf_val (a sh m b : Int) (c : Bool) (x n : Int) : Evt (fun k => spec_ImpulseOf.f k a sh m b c x n) (impR a sh m b c x n) := by
  have no : Evt (fun k => spec_ImpulseOf.j0 k x n true a sh m b c) ([], false) := Evt.step (fun k => by simp only [spec_ImpulseOf.j0]; rw [if_pos trivial]) (Evt.ret _)
  have ez : atB a sh m b 0 = firB a sh m b := by
    unfold atB
    by_cases h1 : firB a sh m b = true
    · rw [h1, hasW_iff.mpr (zero_has (fir_iff h1).w)]; rfl
    · rw [Bool.eq_false_iff.mpr h1]; rfl
  unfold spec_ImpulseOf.f impR impB
  refine Evt.bindp (foAsked_val a sh m b c 0 x) ?_
  rw [ez]
  by_cases h1 : (firB a sh m b && inB x (-100000) 100000) = true
  · have h1' := h1
    rw [Bool.and_eq_true] at h1'
    refine Evt.pos h1 (Evt.bindp (l1In_val _ _ _) ?_)
    by_cases h3 : inB n 0 64 = true
    · rw [h1, h3]
      exact specimp_j c (fir_iff h1'.1) (inB_iff.mp h1'.2) (inB_iff.mp h3).1 (inB_iff.mp h3).2
    · rw [Bool.eq_false_iff.mpr h3]; exact no.eq (by simp)
  · rw [Bool.eq_false_iff.mpr h1]; exact Evt.neg (by simp) (no.eq (by simp))
theorem mx_abs (x : Int) : mx x (-x) = (x.natAbs : Int) := by unfold mx; split <;> omega
def shrB (a sh : Int) : Bool := decide ((a.natAbs : Int) < pw sh)
theorem isShrinking_val {a sh m b : Int} (c : Bool) (F : Fir a sh m b) : impl_First_isShrinking.f a sh m b c = some (shrB a sh) := by
  have h0 := F.a0
  have h1 := F.a1
  unfold impl_First_isShrinking.f shrB
  rw [sizeG_val (by omega) (by omega)]; simp only [Option.bind_some]
  rw [if_pos F.s0, shlp F.s0 (by have := F.s10; omega), mx_abs]
def shrR (a sh m b : Int) : Bool × Bool := if firB a sh m b = true then (shrB a sh, true) else (false, false)
theorem IsShrinking_val (a sh m b : Int) (c : Bool) : impl_IsShrinking.f a sh m b c = some (shrR a sh m b) := by
  unfold impl_IsShrinking.f shrR
  rw [isFirst_val]; simp only [Option.bind_some]
  by_cases h : firB a sh m b = true
  · rw [if_pos h, if_pos h, isShrinking_val c (fir_iff h)]; rfl
  · rw [if_neg h, if_neg h]
theorem specIsShrinking_val (a sh m b : Int) (c : Bool) : spec_IsShrinking.f a sh m b c = some (shrR a sh m b) := by
  unfold spec_IsShrinking.f shrR
  rw [foGood_val]; simp only [Option.bind_some]
  by_cases h : firB a sh m b = true
  · have F := fir_iff h
    have h0 := F.a0
    have h1 := F.a1
    rw [if_pos h, if_pos h, abs_val (by omega) (by omega)]; simp only [Option.bind_some]
    rw [if_pos F.s0, shlp F.s0 (by have := F.s10; omega), mx_abs]; rfl
  · rw [if_neg h, if_neg h]
/-- the denominator of the bound, not yet in lowest terms -/
def ebD (a sh m : Int) : Int := if m = 1 then (pw sh - (a.natAbs : Int)) * 2 else pw sh - (a.natAbs : Int)
def ebR (a sh m b : Int) : Int × Int × Bool := if (firB a sh m b && shrB a sh) = true then (pw sh / (Nat.gcd (pw sh).toNat (ebD a sh m).toNat : Nat), ebD a sh m / (Nat.gcd (pw sh).toNat (ebD a sh m).toNat : Nat), true) else (0, 0, false)
theorem ebD_rng {a sh m b : Int} (F : Fir a sh m b) (h : shrB a sh = true) : 0 < ebD a sh m ∧ ebD a sh m ≤ 4096 ∧ pw sh ≤ 1024 ∧ 1 ≤ pw sh := by
  have h' : (a.natAbs : Int) < pw sh := by simpa [shrB] using h
  have hp := pw_mono (show sh ≤ 10 from F.s10)
  have h10 : pw 10 = 1024 := rfl
  have := pw_rng F.s0 F.s20
  unfold ebD; split <;> omega
theorem impleb_j {a sh m b : Int} (c : Bool) (F : Fir a sh m b) (h : shrB a sh = true) : Evt (fun k => impl_ErrorBound.j0 k false a sh m b c) (pw sh / (Nat.gcd (pw sh).toNat (ebD a sh m).toNat : Nat), ebD a sh m / (Nat.gcd (pw sh).toNat (ebD a sh m).toNat : Nat), true) := by
  have h0 := F.a0
  have h1 := F.a1
  obtain ⟨d0, d1, d2, d3⟩ := ebD_rng F h
  have h' : (a.natAbs : Int) < pw sh := by simpa [shrB] using h
  refine Evt.step (fun k => by simp only [impl_ErrorBound.j0]; rw [if_neg (by simp), if_pos F.s0]) ?_
  rw [shlp F.s0 (by have := F.s10; omega)]
  refine Evt.bindp (sizeG_val (by omega) (by omega)) ?_
  rw [mx_abs]
  have e1 : wrap64 (pw sh - (a.natAbs : Int)) = pw sh - (a.natAbs : Int) := w64 (by omega) (by omega)
  have e2 : wrap64 ((pw sh - (a.natAbs : Int)) * 2) = (pw sh - (a.natAbs : Int)) * 2 := by clear e1; exact w64 (by omega) (by omega)
  rw [e1, e2]
  clear e1 e2
  by_cases c1 : m = 1
  · have e : (pw sh - (a.natAbs : Int)) * 2 = ebD a sh m := by unfold ebD; rw [if_pos c1]
    rw [e]
    exact Evt.pos c1 (Evt.bind (lowest_val (by omega) (by omega) d0 (by omega)) (Evt.ret _))
  · have e : pw sh - (a.natAbs : Int) = ebD a sh m := by unfold ebD; rw [if_neg c1]
    rw [e]
    exact Evt.neg c1 (Evt.bind (lowest_val (by omega) (by omega) d0 (by omega)) (Evt.ret _))
theorem speceb_j {a sh m b : Int} (c : Bool) (F : Fir a sh m b) (h : shrB a sh = true) : Evt (fun k => spec_ErrorBound.j0 k false a sh m b c) (pw sh / (Nat.gcd (pw sh).toNat (ebD a sh m).toNat : Nat), ebD a sh m / (Nat.gcd (pw sh).toNat (ebD a sh m).toNat : Nat), true) := by
  have h0 := F.a0
  have h1 := F.a1
  obtain ⟨d0, d1, d2, d3⟩ := ebD_rng F h
  have h' : (a.natAbs : Int) < pw sh := by simpa [shrB] using h
  refine Evt.step (fun k => by simp only [spec_ErrorBound.j0]; rw [if_neg (by simp), if_pos F.s0]) ?_
  rw [shlp F.s0 (by have := F.s10; omega)]
  refine Evt.bindp (abs_val (by omega) (by omega)) ?_
  rw [mx_abs]
  have e1 : wrap64 (pw sh - (a.natAbs : Int)) = pw sh - (a.natAbs : Int) := w64 (by omega) (by omega)
  have e2 : wrap64 ((pw sh - (a.natAbs : Int)) * 2) = (pw sh - (a.natAbs : Int)) * 2 := by clear e1; exact w64 (by omega) (by omega)
  rw [e1, e2]
  clear e1 e2
  by_cases c1 : m = 1
  · have e : (pw sh - (a.natAbs : Int)) * 2 = ebD a sh m := by unfold ebD; rw [if_pos c1]
    rw [e]
    exact Evt.pos c1 (Evt.bind (ratio_val (by omega) (by omega) d0 (by omega)) (Evt.ret _))
  · have e : pw sh - (a.natAbs : Int) = ebD a sh m := by unfold ebD; rw [if_neg c1]
    rw [e]
    exact Evt.neg c1 (Evt.bind (ratio_val (by omega) (by omega) d0 (by omega)) (Evt.ret _))
theorem ErrorBound_val (a sh m b : Int) (c : Bool) : Evt (fun k => impl_ErrorBound.f k a sh m b c) (ebR a sh m b) := by
  have no : Evt (fun k => impl_ErrorBound.j0 k true a sh m b c) (0, 0, false) := Evt.step (fun k => by simp only [impl_ErrorBound.j0]; rw [if_pos trivial]) (Evt.ret _)
  unfold impl_ErrorBound.f ebR
  refine Evt.bindp (isFirst_val a sh m b c) ?_
  by_cases h : firB a sh m b = true
  · refine Evt.pos h (Evt.bindp (isShrinking_val c (fir_iff h)) ?_)
    by_cases h2 : shrB a sh = true
    · rw [h, h2]; exact impleb_j c (fir_iff h) h2
    · rw [Bool.eq_false_iff.mpr h2]; exact no.eq (by simp)
  · rw [Bool.eq_false_iff.mpr h]; exact Evt.neg (by simp) (no.eq (by simp))
theorem specErrorBound_val (a sh m b : Int) (c : Bool) : Evt (fun k => spec_ErrorBound.f k a sh m b c) (ebR a sh m b) := by
  have no : Evt (fun k => spec_ErrorBound.j0 k true a sh m b c) (0, 0, false) := Evt.step (fun k => by simp only [spec_ErrorBound.j0]; rw [if_pos trivial]) (Evt.ret _)
  unfold spec_ErrorBound.f ebR
  refine Evt.bindp (foGood_val a sh m b c) ?_
  by_cases h : firB a sh m b = true
  · have F := fir_iff h
    have h0 := F.a0
    have h1 := F.a1
    refine Evt.pos h (Evt.bindp (abs_val (by omega) (by omega)) (Evt.pos F.s0 ?_))
    have e : decide (mx a (-a) ≥ shl .i64 1 sh) = !(shrB a sh) := by
      rw [shlp F.s0 (by have := F.s10; omega), mx_abs]; unfold shrB
      by_cases hh : (a.natAbs : Int) < pw sh
      · rw [decide_eq_true hh, decide_eq_false (by omega)]; rfl
      · rw [decide_eq_false hh, decide_eq_true (by omega)]; rfl
    rw [e]
    by_cases h2 : shrB a sh = true
    · rw [h, h2]; exact speceb_j c F h2
    · rw [Bool.eq_false_iff.mpr h2]; exact no.eq (by simp)
  · rw [Bool.eq_false_iff.mpr h]; exact Evt.neg (by simp) (no.eq (by simp))
def exG (a sh y : Int) (s : List Int) : Nat → Int
  | 0 => y
  | n + 1 => a * exG a sh y s n + rd s n * pw (((n + 1 : Nat) : Int) * sh)
def numB (x : Int) : Bool := inB x (-1000000000000) 1000000000000
theorem isNumberB_val (x : Int) : impl_isNumber.f x = some (numB x) := by unfold impl_isNumber.f; rw [in_val]; rfl
theorem wdNumber_val (x : Int) : spec_wdNumber.f x = some (numB x) := by unfold spec_wdNumber.f; rw [l1In_val]; rfl
theorem pw_add {s t : Int} (h0 : 0 ≤ s) (h1 : 0 ≤ t) : pw (s + t) = pw s * pw t := by
  unfold pw; rw [Int.toNat_add h0 h1, Int.pow_add]
theorem shl_pw {s t : Int} (h0 : 0 ≤ s) (h1 : 0 ≤ t) (ht : t ≤ 20) (hb : pw s ≤ 1000000000000) : shl .i64 (pw s) t = pw (s + t) := by
  have hp := pw_rng h1 ht
  have hs : 1 ≤ pw s := by have := pw_mono (s := 0) h0; have e : pw 0 = 1 := rfl; omega
  have hm := mul_bd (a := pw s) (b := pw t) (A := 1000000000000) (B := 1048576) (by omega) (by omega) (by omega) (by omega)
  have hb64 : IntKind.i64.bits = 64 := rfl
  have hmin : min t.toNat IntKind.i64.bits = t.toNat := Nat.min_eq_left (by rw [hb64]; omega)
  unfold shl
  rw [hmin, i64_w, pw_add h0 h1]
  show wrap64 (pw s * pw t) = _
  generalize pw s * pw t = p at *
  exact w64 (by omega) (by omega)
theorem exact_loop {a sh m b : Int} (c : Bool) (F : Fir a sh m b) {y : Int} {s : List Int} (hs : ∀ x ∈ s, -100000 ≤ x ∧ x ≤ 100000) (hl : s.length ≤ 1000) :
    ∀ (d n : Nat), n + d = s.length → pw ((n : Int) * sh) ≤ 1000000000000 → -1000000000000 ≤ exG a sh y s n ∧ exG a sh y s n ≤ 1000000000000 →
    ∃ r : List Int × Bool, Evt (fun k => impl_exact.l0 (exfN a) exfT k sh ((List.range n).map (fun i : Nat => exG a sh y s (i + 1))) (pw ((n : Int) * sh)) s s.length n (exG a sh y s n)) r ∧
      Evt (fun k => spec_foExact.l0 k (exG a sh y s n) ((List.range n).map (fun i : Nat => exG a sh y s (i + 1))) (pw ((n : Int) * sh)) s s.length n a sh m b c) r ∧
      (r.2 = true → r.1 = (List.range s.length).map (fun i : Nat => exG a sh y s (i + 1)) ∧ ∀ i, n ≤ i → i < s.length → pw (((i + 1 : Nat) : Int) * sh) ≤ 1000000000000 ∧ -1000000000000 ≤ exG a sh y s (i + 1) ∧ exG a sh y s (i + 1) ≤ 1000000000000) ∧ (r.2 = false → r.1 = [])
  | 0, n, hd, hp, he => by
    have : n = s.length := by omega
    subst this
    refine ⟨((List.range s.length).map (fun i : Nat => exG a sh y s (i + 1)), true), Evt.step (h := fun _ => some _) (fun k => ?_) (Evt.ret _), Evt.step (h := fun _ => some _) (fun k => ?_) (Evt.ret _), fun _ => ⟨rfl, fun i h1 h2 => by omega⟩, fun h => by simp at h⟩
    · simp only [impl_exact.l0]; rw [if_neg (by omega)]
    · simp only [spec_foExact.l0]; rw [if_neg (by omega)]
  | d + 1, n, hd, hp, he => by
    have hsh := F.s0
    have hsh10 := F.s10
    have hx := hs _ (rd_mem (l := s) (i := n) (by omega) (by omega))
    have hlen : ((List.range n).map (fun i : Nat => exG a sh y s (i + 1))).length < 17592186044416 := by simp; omega
    have hns : (0 : Int) ≤ (n : Int) * sh := Int.mul_nonneg (by omega) hsh
    have en : (((n + 1 : Nat) : Int)) * sh = (n : Int) * sh + sh := by rw [Int.natCast_add, Int.add_mul]; simp
    have esc : shl .i64 (pw ((n : Int) * sh)) sh = pw (((n + 1 : Nat) : Int) * sh) := by rw [en]; exact shl_pw hns hsh (by omega) hp
    have hq1 : 1 ≤ pw (((n + 1 : Nat) : Int) * sh) := by
      have := pw_mono (s := 0) (t := ((n + 1 : Nat) : Int) * sh) (by rw [en]; omega)
      have e : pw 0 = 1 := rfl
      omega
    have hq2 : pw (((n + 1 : Nat) : Int) * sh) ≤ 1024000000000000 := by
      rw [en, pw_add hns hsh]
      have h10 := pw_mono (show sh ≤ 10 from hsh10)
      have e10 : pw 10 = 1024 := rfl
      have h1 := pw_rng hsh F.s20
      have := mul_bd (a := pw ((n : Int) * sh)) (b := pw sh) (A := 1000000000000) (B := 1024) (by have := pw_mono (s := 0) hns; have e : pw 0 = 1 := rfl; omega) hp (by omega) (by omega)
      omega
    have m1 := mul_bd (a := a) (b := exG a sh y s n) (A := 1024) (B := 1000000000000) F.a0 F.a1 he.1 he.2
    have m2 := mul_bd (a := rd s n) (b := pw (((n + 1 : Nat) : Int) * sh)) (A := 100000) (B := 1024000000000000) hx.1 hx.2 (by omega) hq2
    by_cases hb : ¬ pw (((n + 1 : Nat) : Int) * sh) ≤ 1000000000000
    · refine ⟨([], false), Evt.step (h := fun _ => some ([], false)) (fun k => ?_) (Evt.ret _), Evt.step (h := fun _ => some ([], false)) (fun k => ?_) (Evt.ret _), fun h => by simp at h, fun _ => rfl⟩
      · simp only [impl_exact.l0]
        rw [if_pos (by clear esc; omega), if_pos (by clear esc; omega), if_pos (by clear esc; omega), if_pos hsh, esc]
        simp only [exfN, Option.bind_some]
        rw [isNumberB_val, show numB (pw (((n + 1 : Nat) : Int) * sh)) = false from Bool.eq_false_iff.mpr (fun h => hb (inB_iff.mp h).2)]
        rfl
      · simp only [spec_foExact.l0]
        rw [if_pos (by clear esc; omega), if_pos (by clear esc; omega), if_pos (by clear esc; omega), if_pos hsh, esc, if_pos (by clear esc; omega)]
    · have hb' : pw (((n + 1 : Nat) : Int) * sh) ≤ 1000000000000 := by omega
      have m3 := mul_bd (a := rd s n) (b := pw (((n + 1 : Nat) : Int) * sh)) (A := 100000) (B := 1000000000000) hx.1 hx.2 (by omega) hb'
      have eN : numB (pw (((n + 1 : Nat) : Int) * sh)) = true := inB_iff.mpr ⟨by omega, hb'⟩
      have e1 : wrap64 (a * exG a sh y s n) = a * exG a sh y s n := by clear esc; generalize a * exG a sh y s n = p at *; exact w64 (by omega) (by omega)
      have e2 : wrap64 (rd s n * pw (((n + 1 : Nat) : Int) * sh)) = rd s n * pw (((n + 1 : Nat) : Int) * sh) := by clear e1 esc; generalize rd s n * pw (((n + 1 : Nat) : Int) * sh) = p at *; exact w64 (by omega) (by omega)
      have e3 : wrap64 (a * exG a sh y s n + rd s n * pw (((n + 1 : Nat) : Int) * sh)) = exG a sh y s (n + 1) := by
        clear e1 e2 esc
        show _ = a * exG a sh y s n + rd s n * pw (((n + 1 : Nat) : Int) * sh)
        generalize rd s n * pw (((n + 1 : Nat) : Int) * sh) = p at *
        generalize a * exG a sh y s n = q at *
        exact w64 (by omega) (by omega)
      have e4 : wrap64 ((n : Int) + 1) = ((n + 1 : Nat) : Int) := by clear e1 e2 e3 esc m1 m2 m3; rw [w64 (by omega) (by omega)]; rfl
      have u1 : ∀ k, impl_exact.l0 (exfN a) exfT (k + 1) sh ((List.range n).map (fun i : Nat => exG a sh y s (i + 1))) (pw ((n : Int) * sh)) s s.length n (exG a sh y s n) = if numB (exG a sh y s (n + 1)) = true then impl_exact.l0 (exfN a) exfT k sh ((List.range (n + 1)).map (fun i : Nat => exG a sh y s (i + 1))) (pw (((n + 1 : Nat) : Int) * sh)) s s.length ((n + 1 : Nat) : Int) (exG a sh y s (n + 1)) else some ([], false) := fun k => by
        simp only [impl_exact.l0]
        rw [if_pos (by clear e1 e2 e3 e4 esc m1 m2 m3; omega), if_pos (by clear e1 e2 e3 e4 esc m1 m2 m3; omega), if_pos (by clear e1 e2 e3 e4 esc m1 m2 m3; omega), if_pos hsh, esc]
        simp only [exfN, exfT, Option.bind_some]
        rw [isNumberB_val, eN]; simp only [Option.bind_some]
        rw [if_pos trivial, e1, e2, e3, isNumberB_val, e4]; simp only [Option.bind_some]
        rw [if_pos hlen, range_snoc (fun i : Nat => exG a sh y s (i + 1)) n]
      have u2 : ∀ k, spec_foExact.l0 (k + 1) (exG a sh y s n) ((List.range n).map (fun i : Nat => exG a sh y s (i + 1))) (pw ((n : Int) * sh)) s s.length n a sh m b c = if numB (exG a sh y s (n + 1)) = true then spec_foExact.l0 k (exG a sh y s (n + 1)) ((List.range (n + 1)).map (fun i : Nat => exG a sh y s (i + 1))) (pw (((n + 1 : Nat) : Int) * sh)) s s.length ((n + 1 : Nat) : Int) a sh m b c else some ([], false) := fun k => by
        simp only [spec_foExact.l0]
        rw [if_pos (by clear e1 e2 e3 e4 esc m1 m2 m3; omega), if_pos (by clear e1 e2 e3 e4 esc m1 m2 m3; omega), if_pos (by clear e1 e2 e3 e4 esc m1 m2 m3; omega), if_pos hsh, esc, if_neg (by clear e1 e2 e3 e4 esc m1 m2 m3; omega), e1, e2, e3, wdNumber_val, e4]; simp only [Option.bind_some]
        rw [if_pos hlen, range_snoc (fun i : Nat => exG a sh y s (i + 1)) n]
      clear e1 e2 e3 e4 esc m1 m2 m3
      by_cases hn : numB (exG a sh y s (n + 1)) = true
      · have hn' := inB_iff.mp hn
        obtain ⟨r, x1, x2, x3, x4⟩ := exact_loop c F hs hl d (n + 1) (by omega) hb' hn'
        refine ⟨r, Evt.step (fun k => by rw [u1, if_pos hn]) x1, Evt.step (fun k => by rw [u2, if_pos hn]) x2, fun h => ⟨(x3 h).1, fun i h1 h2 => ?_⟩, x4⟩
        by_cases hi : i = n
        · subst hi; exact ⟨hb', hn'⟩
        · exact (x3 h).2 i (by omega) h2
      · exact ⟨([], false), Evt.step (h := fun _ => some ([], false)) (fun k => by rw [u1, if_neg hn]) (Evt.ret _), Evt.step (h := fun _ => some ([], false)) (fun k => by rw [u2, if_neg hn]) (Evt.ret _), fun h => by simp at h, fun _ => rfl⟩
theorem ExactFirst_val (a sh m b : Int) (c : Bool) (y : Int) (s : List Int) : ∃ r : List Int × Bool, Evt (fun k => impl_ExactFirst.f k a sh m b c y s) r ∧ Evt (fun k => spec_ExactFirst.f k a sh m b c y s) r ∧
    (r.2 = true → runB a sh m b y s = true ∧ r.1 = (List.range s.length).map (fun i : Nat => exG a sh y s (i + 1)) ∧ ∀ i, i < s.length → pw (((i + 1 : Nat) : Int) * sh) ≤ 1000000000000 ∧ -1000000000000 ≤ exG a sh y s (i + 1) ∧ exG a sh y s (i + 1) ≤ 1000000000000) ∧ (r.2 = false → r.1 = []) := by
  by_cases h1 : atB a sh m b y = true
  · by_cases h2 : sig s = true
    · have hR : runB a sh m b y s = true := by unfold runB; rw [h1, h2]; rfl
      have R := run_iff hR
      have hy := has_word R.F.w R.y
      have e0 : ((0 : Nat) : Int) * sh = 0 := by simp
      have ep : pw 0 = 1 := rfl
      have hln := R.len
      obtain ⟨r, x1, x2, x3, x4⟩ := exact_loop (y := y) c R.F R.s (by omega) s.length 0 (by omega) (by rw [e0, ep]; omega) ⟨by show -1000000000000 ≤ y; omega, by show y ≤ 1000000000000; omega⟩
      rw [e0, ep] at x1 x2
      refine ⟨r, ?_, ?_, fun h => ⟨hR, (x3 h).1, fun i hi => (x3 h).2 i (by omega) hi⟩, x4⟩
      · unfold impl_ExactFirst.f
        exact Evt.bindp (isAt_val a sh m b c y) (Evt.pos h1 (Evt.bindp (isSignal_val s) (Evt.pos h2 x1)))
      · unfold spec_ExactFirst.f
        have x2' : Evt (fun k => spec_foExact.f k a sh m b c y s) r := x2
        exact Evt.bindp (askedz a sh m b c y) (Evt.pos h1 (Evt.bind (wdSignal_val s) (Evt.pos h2 (Evt.bind x2' (Evt.ret _)))))
    · refine ⟨([], false), ?_, ?_, fun h => by simp at h, fun _ => rfl⟩
      · unfold impl_ExactFirst.f
        exact Evt.bindp (isAt_val a sh m b c y) (Evt.pos h1 (Evt.bindp (isSignal_val s) (Evt.neg h2 (Evt.ret _))))
      · unfold spec_ExactFirst.f
        exact Evt.bindp (askedz a sh m b c y) (Evt.pos h1 (Evt.bind (wdSignal_val s) (Evt.neg h2 (Evt.ret _))))
  · refine ⟨([], false), ?_, ?_, fun h => by simp at h, fun _ => rfl⟩
    · unfold impl_ExactFirst.f
      exact Evt.bindp (isAt_val a sh m b c y) (Evt.neg h1 (Evt.ret _))
    · unfold spec_ExactFirst.f
      exact Evt.bindp (askedz a sh m b c y) (Evt.neg h1 (Evt.ret _))
theorem uSame_loop (a b : List Int) (hl : a.length = b.length) (hb : a.length ≤ 1000000) : ∀ (d i : Nat), i + d = a.length →
    Evt (fun k => laws_uSame.l0 k a b a.length i) (decide (a.drop i = b.drop i))
  | 0, i, h => by
    refine Evt.step (h := fun _ => some true) (fun k => ?_) ((Evt.ret _).eq (by rw [List.drop_of_length_le (by omega), List.drop_of_length_le (by omega)]; rfl))
    simp only [laws_uSame.l0]; rw [if_neg (by omega)]
  | d + 1, i, h => by
    have ih := uSame_loop a b hl hb d (i + 1) (by omega)
    rw [drop_rd a i (by omega), drop_rd b i (by omega)]
    by_cases hx : rd a i = rd b i
    · refine Evt.step (fun k => ?_) (ih.eq (by simp [hx]))
      simp only [laws_uSame.l0]
      rw [if_pos (by omega), if_pos (by omega), if_pos (by omega), if_pos (by omega), if_pos hx, w64 (by omega) (by omega)]; rfl
    · refine Evt.step (h := fun _ => some false) (fun k => ?_) ((Evt.ret _).eq (by simp [hx]))
      simp only [laws_uSame.l0]
      rw [if_pos (by omega), if_pos (by omega), if_pos (by omega), if_pos (by omega), if_neg hx]
theorem uSame_val (a b : List Int) (hb : a.length ≤ 1000000) : Evt (fun k => laws_uSame.f k a b) (decide (a = b)) := by
  unfold laws_uSame.f
  by_cases h : a.length = b.length
  · exact Evt.pos (by omega) ((uSame_loop a b h hb a.length 0 (by omega)).eq (by simp))
  · exact Evt.neg (by omega) ((Evt.ret _).eq (by symm; exact decide_eq_false (fun e => h (by rw [e]))))
theorem uSame_same (a : List Int) (hb : a.length ≤ 1000000) : Evt (fun k => laws_uSame.f k a a) true := (uSame_val a a hb).eq (by simp)
theorem first_some (s : List Int) (p seed bits : Int) (hs : Bytes s) (h0 : 0 ≤ p) (h1 : p ≤ 700000) (hb0 : -1000 ≤ bits) (hb : bits ≤ 1000) :
    ∃ a sh m b c p' seed', spec_l1Cur_first.f s p seed bits = some (a, sh, m, b, c, p', seed') ∧ p ≤ p' ∧ p' ≤ p + 30 := by
  obtain ⟨x1, p1, s1, e1, a1, b1, g1, g2⟩ := pick_some s p seed 5 hs h0 (by omega) (by omega)
  have hp := pw_mono (show x1 ≤ 4 by omega)
  have hp0 := pw_mono (show 0 ≤ x1 by omega)
  have q4 : pw 4 = 16 := rfl
  have q0 : pw 0 = 1 := rfl
  have es : shl .i64 2 x1 = 2 * pw x1 := by
    have hb64 : IntKind.i64.bits = 64 := rfl
    unfold shl
    rw [Nat.min_eq_left (by rw [hb64]; omega), i64_w]
    show wrap64 (2 * pw x1) = _
    exact w64 (by omega) (by omega)
  have ew : wrap64 (2 * pw x1 + 3) = 2 * pw x1 + 3 := w64 (by omega) (by omega)
  obtain ⟨x2, p2, s2, e2, a2, b2, g3, g4⟩ := pick_some s p1 s1 (2 * pw x1 + 3) hs (by clear ew es; omega) (by clear ew es; omega) (by clear ew es; omega)
  obtain ⟨x3, p3, s3, e3, a3, b3, g5, g6⟩ := pick_some s p2 s2 3 hs (by clear ew es; omega) (by clear ew es; omega) (by omega)
  obtain ⟨x4, p4, s4, e4, a4, b4, g7, g8⟩ := pick_some s p3 s3 (wrap64 (bits - 1)) hs (by clear ew es; omega) (by clear ew es; omega) (by clear ew es; unfold wrap64; omega)
  obtain ⟨x5, p5, s5, e5, g9, g10⟩ := one_some s p4 s4 2 hs (by clear ew es; omega) (by clear ew es; omega) (by omega)
  obtain ⟨x6, p6, s6, e6, a6, b6, g11, g12⟩ := pick_some s p5 s5 18 hs (by clear ew es; omega) (by clear ew es; omega) (by omega)
  unfold spec_l1Cur_first.f
  rw [e1]; simp only [Option.bind_some]
  rw [if_pos a1, es, ew, e2]; simp only [Option.bind_some]
  rw [e3]; simp only [Option.bind_some]
  rw [e4]; simp only [Option.bind_some]
  rw [e5]; simp only [Option.bind_some]
  rw [e6]; simp only [Option.bind_some]
  clear ew es e1 e2 e3 e4 e5 e6 hp hp0 q4 q0
  by_cases c0 : x6 = 0
  · obtain ⟨y, p7, s7, e7, m7, g13, g14⟩ := among_some s p6 s6 [1024, (-1024), 1025, (-4611686018427387904), 0] hs (by omega) (by omega) (by simp) (by simp)
    rw [if_pos c0, e7]; simp only [Option.bind_some]
    exact ⟨_, _, _, _, _, p7, s7, rfl, by omega, by omega⟩
  by_cases c1 : x6 = 1
  · obtain ⟨y, p7, s7, e7, m7, g13, g14⟩ := among_some s p6 s6 [10, 11, (-1), 64] hs (by omega) (by omega) (by simp) (by simp)
    rw [if_neg c0, if_pos c1, e7]; simp only [Option.bind_some]
    exact ⟨_, _, _, _, _, p7, s7, rfl, by omega, by omega⟩
  by_cases c2 : x6 = 2
  · obtain ⟨y, p7, s7, e7, m7, g13, g14⟩ := among_some s p6 s6 [3, (-1)] hs (by omega) (by omega) (by simp) (by simp)
    rw [if_neg c0, if_neg c1, if_pos c2, e7]; simp only [Option.bind_some]
    exact ⟨_, _, _, _, _, p7, s7, rfl, by omega, by omega⟩
  by_cases c3 : x6 = 3
  · obtain ⟨bw, cw, p7, s7, e7, g13, g14⟩ := word_some s p6 s6 hs (by omega) (by omega)
    rw [if_neg c0, if_neg c1, if_neg c2, if_pos c3, e7]; simp only [Option.bind_some]
    exact ⟨_, _, _, _, _, p7, s7, rfl, by omega, by omega⟩
  rw [if_neg c0, if_neg c1, if_neg c2, if_neg c3]
  exact ⟨_, _, _, _, _, p6, s6, rfl, by omega, by omega⟩
theorem number_some (s : List Int) (p seed : Int) (hs : Bytes s) (h0 : 0 ≤ p) (h1 : p ≤ 800000) : ∃ x p' seed', spec_l1Cur_number.f s p seed = some (x, p', seed') ∧ p ≤ p' ∧ p' ≤ p + 6 := by
  obtain ⟨x1, p1, s1, e1, a1, b1, g1, g2⟩ := pick_some s p seed 14 hs h0 (by omega) (by omega)
  unfold spec_l1Cur_number.f
  rw [e1]; simp only [Option.bind_some]
  by_cases c0 : x1 = 0
  · obtain ⟨y, p2, s2, e2, m2, g3, g4⟩ := among_some s p1 s1 [1000000000000, (-1000000000000), 1000000000001, (-4611686018427387904), 549755813888] hs (by omega) (by omega) (by simp) (by simp)
    rw [if_pos c0, e2]; simp only [Option.bind_some]
    exact ⟨_, p2, s2, rfl, by omega, by omega⟩
  by_cases c1 : x1 = 1
  · obtain ⟨x2, p2, s2, e2, a2, b2, g3, g4⟩ := pick_some s p1 s1 256 hs (by omega) (by omega) (by omega)
    obtain ⟨x3, p3, s3, e3, a3, b3, g5, g6⟩ := pick_some s p2 s2 256 hs (by omega) (by omega) (by omega)
    rw [if_neg c0, if_pos c1, e2]; simp only [Option.bind_some]; rw [e3]; simp only [Option.bind_some]
    exact ⟨_, p3, s3, rfl, by omega, by omega⟩
  obtain ⟨x2, p2, s2, e2, a2, b2, g3, g4⟩ := pick_some s p1 s1 200 hs (by omega) (by omega) (by omega)
  rw [if_neg c0, if_neg c1, e2]; simp only [Option.bind_some]
  exact ⟨_, p2, s2, rfl, by omega, by omega⟩
theorem inWord_some (s : List Int) (p seed b : Int) (c : Bool) (hs : Bytes s) (h0 : 0 ≤ p) (h1 : p ≤ 700000) : ∃ x p' seed', Evt (fun k => spec_l1Cur_inWord.f k s p seed b c) (x, p', seed') ∧ p ≤ p' ∧ p' ≤ p + 10 := by
  have yes : ∀ q sd, 0 ≤ q → q ≤ 750000 → ∃ x p' seed', Evt (fun k => spec_l1Cur_inWord.j0 k true s q sd b c) (x, p', seed') ∧ q ≤ p' ∧ p' ≤ q + 6 := fun q sd hq hq' => by
    obtain ⟨x, p', sd', e, g1, g2⟩ := number_some s q sd hs hq (by omega)
    exact ⟨x, p', sd', Evt.step (fun k => by simp only [spec_l1Cur_inWord.j0]; rw [if_pos trivial]) (Evt.bindp e (Evt.ret _)), g1, g2⟩
  unfold spec_l1Cur_inWord.f
  by_cases hw : wordB b = true
  · have W := wordB_iff.mp hw
    have hH := Hf_rng W
    obtain ⟨z, p1, s1, e1, g1, g2⟩ := one_some s p seed 12 hs h0 (by omega) (by omega)
    cases z with
    | true =>
      obtain ⟨x, p', sd', e, g3, g4⟩ := yes p1 s1 (by omega) (by omega)
      exact ⟨x, p', sd', Evt.bindp (wdGood_val b c) (Evt.pos hw (Evt.bindp e1 e)), by omega, by omega⟩
    | false =>
      obtain ⟨x2, p2, s2, e2, a2, b2, g3, g4⟩ := pick_some s p1 s1 5 hs (by omega) (by omega) (by omega)
      have main : ∃ x p' sd', Evt (fun k => spec_l1Cur_inWord.j0 k false s p1 s1 b c) (x, p', sd') ∧ p2 ≤ p' ∧ p' ≤ p2 + 2 := by
        by_cases c0 : x2 = 0
        · refine ⟨-(Hf b), p2, s2, Evt.step (fun k => by simp only [spec_l1Cur_inWord.j0]; rw [if_neg (by simp)]) ?_, by omega, by omega⟩
          exact Evt.bindp e2 (Evt.pos c0 (Evt.bindp (low_val c W) (Evt.ret _)))
        by_cases c1 : x2 = 1
        · refine ⟨Hf b - 1, p2, s2, Evt.step (fun k => by simp only [spec_l1Cur_inWord.j0]; rw [if_neg (by simp)]) ?_, by omega, by omega⟩
          exact Evt.bindp e2 (Evt.neg c0 (Evt.pos c1 (Evt.bindp (high_val c W) (Evt.ret _))))
        obtain ⟨x3, p3, s3, e3, a3, b3, g5, g6⟩ := pick_some s p2 s2 256 hs (by omega) (by omega) (by omega)
        refine ⟨wrap64 (-(Hf b) + Int.tmod (wrap64 (x3 * 257)) (shl .i64 1 b)), p3, s3, Evt.step (fun k => by simp only [spec_l1Cur_inWord.j0]; rw [if_neg (by simp)]) ?_, by omega, by omega⟩
        have hz : ¬ shl .i64 1 b = 0 := by rw [shl_all W]; omega
        have hb0 : 0 ≤ b := by have := W.1; omega
        exact Evt.bindp e2 (Evt.neg c0 (Evt.neg c1 (Evt.bindp (low_val c W) (Evt.bindp e3 (Evt.pos hb0 (Evt.neg hz (Evt.ret _)))))))
      obtain ⟨x, p', sd', e, g5, g6⟩ := main
      exact ⟨x, p', sd', Evt.bindp (wdGood_val b c) (Evt.pos hw (Evt.bindp e1 e)), by omega, by omega⟩
  · obtain ⟨x, p', sd', e, g3, g4⟩ := yes p seed (by omega) (by omega)
    exact ⟨x, p', sd', Evt.bindp (wdGood_val b c) (Evt.neg hw e), by omega, by omega⟩
theorem sample_some (s : List Int) (p seed n : Int) (hs : Bytes s) (h0 : 0 ≤ p) (h1 : p ≤ 700000) (hn : 0 ≤ n) (hn' : n ≤ 1000) : ∃ x p' seed', spec_l1Cur_sample.f s p seed n = some (x, p', seed') ∧ p ≤ p' ∧ p' ≤ p + 6 := by
  obtain ⟨z, p1, s1, e1, g1, g2⟩ := one_some s p seed 14 hs h0 (by omega) (by omega)
  unfold spec_l1Cur_sample.f
  rw [e1]; simp only [Option.bind_some]
  cases z with
  | true =>
    obtain ⟨y, p2, s2, e2, m2, g3, g4⟩ := among_some s p1 s1 [100000, (-100000), 100001, (-4611686018427387904)] hs (by omega) (by omega) (by simp) (by simp)
    rw [if_pos rfl, e2]; simp only [Option.bind_some]
    exact ⟨_, p2, s2, rfl, by omega, by omega⟩
  | false =>
    have ew : wrap64 (wrap64 (2 * n) + 1) = 2 * n + 1 := by rw [w64 (x := 2 * n) (by omega) (by omega), w64 (by omega) (by omega)]
    obtain ⟨x2, p2, s2, e2, a2, b2, g3, g4⟩ := pick_some s p1 s1 (2 * n + 1) hs (by clear ew; omega) (by clear ew; omega) (by clear ew; omega)
    rw [if_neg (by simp), ew, e2]; simp only [Option.bind_some]
    exact ⟨_, p2, s2, rfl, by clear ew; omega, by clear ew; omega⟩
theorem draw_exactFirst (s : List Int) (hs : Bytes s) : ∃ a sh m b c y t, Evt (fun k => spec_DrawExactFirst.f k s) (a, sh, m, b, c, y, t) := by
  obtain ⟨a, sh, m, b, c, p1, s1, e1, g1, g2⟩ := first_some s 0 0 9 hs (by omega) (by omega) (by omega) (by omega)
  obtain ⟨y, p2, s2, e2, g3, g4⟩ := inWord_some s p1 s1 b c hs (by omega) (by omega)
  obtain ⟨t, p3, s3, e3, hf, g5, g6⟩ := signal_some s p2 s2 7 9 hs (by omega) (by omega) (by omega) (by omega) (by omega) (by omega)
  refine ⟨a, sh, m, b, c, y, t, ?_⟩
  unfold spec_DrawExactFirst.f
  exact Evt.bindp e1 (Evt.bind e2 (Evt.bind e3 (Evt.ret _)))
theorem draw_impulse (s : List Int) (hs : Bytes s) : ∃ a sh m b c x n, spec_DrawImpulseOf.f s = some (a, sh, m, b, c, x, n) := by
  obtain ⟨a, sh, m, b, c, p1, s1, e1, g1, g2⟩ := first_some s 0 0 9 hs (by omega) (by omega) (by omega) (by omega)
  obtain ⟨x, p2, s2, e2, g3, g4⟩ := sample_some s p1 s1 60 hs (by omega) (by omega) (by omega) (by omega)
  obtain ⟨n, p3, s3, e3, m3, g5, g6⟩ := among_some s p2 s2 [0, 1, 5, 12, 64, 65, (-1)] hs (by omega) (by omega) (by simp) (by simp)
  refine ⟨a, sh, m, b, c, x, n, ?_⟩
  unfold spec_DrawImpulseOf.f
  rw [e1]; simp only [Option.bind_some]; rw [e2]; simp only [Option.bind_some]; rw [e3]; rfl
theorem draw_firstStep (s : List Int) (hs : Bytes s) : ∃ a sh m b c y x, Evt (fun k => spec_DrawFirstStep.f k s) (a, sh, m, b, c, y, x) := by
  obtain ⟨a, sh, m, b, c, p1, s1, e1, g1, g2⟩ := first_some s 0 0 9 hs (by omega) (by omega) (by omega) (by omega)
  obtain ⟨y, p2, s2, e2, g3, g4⟩ := inWord_some s p1 s1 b c hs (by omega) (by omega)
  obtain ⟨x, p3, s3, e3, g5, g6⟩ := sample_some s p2 s2 20 hs (by omega) (by omega) (by omega) (by omega)
  refine ⟨a, sh, m, b, c, y, x, ?_⟩
  unfold spec_DrawFirstStep.f
  exact Evt.bindp e1 (Evt.bind e2 (Evt.bindp e3 (Evt.ret _)))
end Go.Proofs.Ytcekmdepalbnhaa.PlainFnFirstRuns
