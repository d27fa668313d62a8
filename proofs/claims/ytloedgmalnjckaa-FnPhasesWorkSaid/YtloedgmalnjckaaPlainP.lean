/- What the functions that this statement reaches compute, in plain Lean: those laws of our library that it needs. No condition. -/
import Derived.Test.YtloedgmalnjckaaPFnPhasesWorkx0
import Derived.Test.YtloedgmalnjckaaPFnPhasesWorkx1
import Derived.Test.YtloedgmalnjckaaPFnPhasesWorkx2
import Derived.Test.YtloedgmalnjckaaPFnPhasesWorkx3
import Derived.Test.YtloedgmalnjckaaPFnPhasesWorkx4
import Derived.Test.YtloedgmalnjckaaPFnPhasesWorkx5
import Derived.Test.YtloedgmalnjckaaPFnPhasesWorkx6
import Derived.Test.YtloedgmalnjckaaPFnPhasesWorkx7
import Derived.Test.YtloedgmalnjckaaPFnPhasesWorkx8
import Derived.Test.YtloedgmalnjckaaPFnPhasesWorkx9
import Derived.Test.YtloedgmalnjckaaPFnPhasesWorkx10
import Derived.Test.YtloedgmalnjckaaBase
import Derived.Laws.BitsLemmas
namespace Go.Proofs.Ytloedgmalnjckaa.PlainFnPhasesWork
open Go.RowKit Go.Proofs.Ytloedgmalnjckaa.PFnPhasesWork Go.Proofs.YtloedgmalnjckaaW.PrintWords Go.Proofs.YtloedgmalnjckaaW.PrintLast Go.Proofs.YtloedgmalnjckaaW.PrintMore Go.Proofs.Ytloedgmalnjckaa.Base
set_option linter.unusedVariables false
set_option linter.unusedSimpArgs false
def Bytes (s : List Int) : Prop := ∀ x ∈ s, 0 ≤ x ∧ x ≤ 255
theorem and255 (x : Int) (h0 : 0 ≤ x) (h1 : x < 18446744073709551616) : Go.bits .and .u64 x 255 = x % 256 :=
  bits_mask .u64 64 (by decide) (fun n h0 h1 => by simp [IntKind.wrap, IntKind.bits, IntKind.signed]; omega) 8 (by decide) x h0 h1
theorem u64_rng (x : Int) : 0 ≤ IntKind.u64.wrap x ∧ IntKind.u64.wrap x < 18446744073709551616 := by
  simp [IntKind.wrap, IntKind.bits, IntKind.signed]; omega
theorem next_some (s : List Int) (p seed : Int) (hs : Bytes s) (h0 : 0 ≤ p) (h1 : p ≤ 1000000) :
    ∃ b seed', spec_l1Cur_next.f s p seed = some (b, p + 1, seed') ∧ 0 ≤ b ∧ b ≤ 255 := by
  have hw : wrap64 (p + 1) = p + 1 := w64 (by omega) (by omega)
  have hx : ∀ y : Int, 0 ≤ wrap64 (Go.bits .and .u64 (IntKind.u64.wrap y / 1099511627776) 255) ∧ wrap64 (Go.bits .and .u64 (IntKind.u64.wrap y / 1099511627776) 255) ≤ 255 := fun y => by
    have := u64_rng y
    rw [and255 _ (by omega) (by omega), w64 (by omega) (by omega)]; omega
  unfold spec_l1Cur_next.f
  rw [hw]
  by_cases hp : p < (s.length : Int)
  · have hb := hs _ (rd_mem h0 hp)
    rw [if_pos hp, if_pos h0]
    by_cases hq : p + 1 ≤ (s.length : Int)
    · rw [if_pos hq]
      exact ⟨_, _, rfl, by rw [w64 (by omega) (by omega)]; exact hb.1, by rw [w64 (by omega) (by omega)]; exact hb.2⟩
    · omega
  · rw [if_neg hp, if_neg (by omega)]
    exact ⟨_, _, rfl, hx _⟩
theorem pick_some (s : List Int) (p seed n : Int) (hs : Bytes s) (h0 : 0 ≤ p) (h1 : p ≤ 900000) (hn : n ≤ 1000000) :
    ∃ x p' seed', spec_l1Cur_pick.f s p seed n = some (x, p', seed') ∧ 0 ≤ x ∧ x ≤ max 0 (n - 1) ∧ p ≤ p' ∧ p' ≤ p + 2 := by
  unfold spec_l1Cur_pick.f
  by_cases c : n ≤ 1
  · rw [if_pos c]
    exact ⟨_, _, _, rfl, by omega, by omega, by omega, by omega⟩
  · obtain ⟨b, sd, e, hb0, hb1⟩ := next_some s p seed hs h0 (by omega)
    rw [if_neg c, e]
    simp only [Option.bind_some]
    by_cases d : n > 200
    · obtain ⟨b', sd', e', hb0', hb1'⟩ := next_some s (p + 1) sd hs (by omega) (by omega)
      rw [if_pos d, e']
      simp only [Option.bind_some]
      rw [if_neg (by omega), w64 (x := b * 256) (by omega) (by omega), w64 (x := b * 256 + b') (by omega) (by omega), tmod_nn (by omega)]
      have := Int.emod_nonneg (b * 256 + b') (by omega : n ≠ 0)
      have := Int.emod_lt_of_pos (b * 256 + b') (by omega : 0 < n)
      exact ⟨_, _, _, rfl, by omega, by omega, by omega, by omega⟩
    · rw [if_neg d, if_neg (by omega), tmod_nn (by omega)]
      have := Int.emod_nonneg b (by omega : n ≠ 0)
      have := Int.emod_lt_of_pos b (by omega : 0 < n)
      exact ⟨_, _, _, rfl, by omega, by omega, by omega, by omega⟩
theorem one_some (s : List Int) (p seed n : Int) (hs : Bytes s) (h0 : 0 ≤ p) (h1 : p ≤ 900000) (hn : n ≤ 1000000) :
    ∃ b p' seed', spec_l1Cur_one.f s p seed n = some (b, p', seed') ∧ p ≤ p' ∧ p' ≤ p + 2 := by
  obtain ⟨x, p', sd, e, _, _, g1, g2⟩ := pick_some s p seed n hs h0 h1 hn
  unfold spec_l1Cur_one.f
  rw [e]
  exact ⟨_, _, _, rfl, g1, g2⟩
theorem among_some (s : List Int) (p seed : Int) (l : List Int) (hs : Bytes s) (h0 : 0 ≤ p) (h1 : p ≤ 900000) (hl : 0 < l.length) (hn : (l.length : Int) ≤ 1000000) :
    ∃ x p' seed', spec_l1Cur_among.f s p seed l = some (x, p', seed') ∧ x ∈ l ∧ p ≤ p' ∧ p' ≤ p + 2 := by
  obtain ⟨x, p', sd, e, a, b, g1, g2⟩ := pick_some s p seed l.length hs h0 h1 hn
  unfold spec_l1Cur_among.f
  rw [e]
  simp only [Option.bind_some]
  rw [if_pos a, if_pos (by omega)]
  exact ⟨_, _, _, rfl, rd_mem a (by omega), g1, g2⟩
/-- what a drawn list may hold: numbers that fit, and not many -/
def Fit (l : List Int) : Prop := l.length ≤ 200 ∧ ∀ x ∈ l, -4611686018427387904 ≤ x ∧ x ≤ 4611686018427387904
theorem Fit.snoc {l : List Int} (h : Fit l) {x : Int} (hl : l.length ≤ 199) (h0 : -4611686018427387904 ≤ x) (h1 : x ≤ 4611686018427387904) : Fit (l ++ [x]) :=
  ⟨by simp; omega, fun y hy => by
    rcases List.mem_append.mp hy with hy | hy
    · exact h.2 y hy
    · rw [List.mem_singleton] at hy; subst hy; exact ⟨h0, h1⟩⟩
theorem Fit.zeros (n : Nat) (h : n ≤ 200) : Fit (List.replicate n 0) :=
  ⟨by simpa using h, fun x hx => by rw [(List.mem_replicate.mp hx).2]; omega⟩
theorem signal_loop (s : List Int) (size : Int) (hs : Bytes s) (h2 : 0 ≤ size) (h3 : size ≤ 400000) : ∀ (d : Nat) (out : List Int) (p seed : Int),
    0 ≤ p → p + 4 * d + 10 ≤ 900000 → out.length + d ≤ 190 → Fit out →
    ∃ r p' seed', Evt (fun k => spec_l1Cur_signal.l0 k size out d s p seed) (r, p', seed') ∧ Fit r ∧ 0 ≤ p' ∧ p' ≤ p + 4 * d + 10
  | 0, out, p, seed, h0, h1, hl, hf => by
    have hsz : out.length < 17592186044416 := by omega
    obtain ⟨x, p1, s1, e1, a1, b1, g1, g2⟩ := pick_some s p seed 16 hs h0 (by omega) (by omega)
    by_cases c0 : x = 0
    · obtain ⟨y, p2, s2, e2, m2, g3, g4⟩ := among_some s p1 s1 [100000, -100000, 100001, 4611686018427387904] hs (by omega) (by omega) (by simp) (by simp)
      refine ⟨out ++ [y], p2, s2, Evt.step (h := fun _ => some (out ++ [y], p2, s2)) (fun k => ?_) (Evt.ret _), hf.snoc (by omega) ?_ ?_, by omega, by omega⟩
      · simp only [spec_l1Cur_signal.l0]
        rw [if_neg (by omega), e1]; simp only [Option.bind_some]
        rw [if_pos c0, e2]; simp only [Option.bind_some]
        rw [if_pos hsz]
      · simp at m2; rcases m2 with rfl | rfl | rfl | rfl <;> omega
      · simp at m2; rcases m2 with rfl | rfl | rfl | rfl <;> omega
    · by_cases c1 : x = 1
      · obtain ⟨y, p2, s2, e2, a2, b2, g3, g4⟩ := pick_some s p1 s1 2 hs (by omega) (by omega) (by omega)
        have hw : wrap64 (64 + y) = 64 + y := w64 (by omega) (by omega)
        refine ⟨List.replicate (64 + y).toNat 0, p2, s2, Evt.step (h := fun _ => some (List.replicate (64 + y).toNat 0, p2, s2)) (fun k => ?_) (Evt.ret _), Fit.zeros _ (by omega), by omega, by omega⟩
        simp only [spec_l1Cur_signal.l0]
        rw [if_neg (by omega), e1]; simp only [Option.bind_some]
        rw [if_neg c0, if_pos c1, e2]; simp only [Option.bind_some]
        rw [hw, if_pos (by omega), if_pos (by omega)]
      · refine ⟨out, p1, s1, Evt.step (h := fun _ => some (out, p1, s1)) (fun k => ?_) (Evt.ret _), hf, by omega, by omega⟩
        simp only [spec_l1Cur_signal.l0]
        rw [if_neg (by omega), e1]; simp only [Option.bind_some]
        rw [if_neg c0, if_neg c1]
  | d + 1, out, p, seed, h0, h1, hl, hf => by
    have hsz : out.length < 17592186044416 := by omega
    have hd : wrap64 (((d + 1 : Nat) : Int) - 1) = (d : Int) := by rw [w64 (by omega) (by omega)]; omega
    obtain ⟨b, p1, s1, e1, g1, g2⟩ := one_some s p seed 4 hs h0 (by omega) (by omega)
    cases b with
    | true =>
      obtain ⟨r, p', sd, hr, hf', q0, q1⟩ := signal_loop s size hs h2 h3 d (out ++ [0]) p1 s1 (by omega) (by omega) (by simp; omega) (hf.snoc (by omega) (by omega) (by omega))
      refine ⟨r, p', sd, Evt.step (fun k => ?_) hr, hf', q0, by omega⟩
      simp only [spec_l1Cur_signal.l0]
      rw [if_pos (by omega), e1]; simp only [Option.bind_some, if_true]
      rw [if_pos hsz, hd]
    | false =>
      have hw : wrap64 (wrap64 (2 * size) + 1) = 2 * size + 1 := by rw [w64 (x := 2 * size) (by omega) (by omega), w64 (by omega) (by omega)]
      obtain ⟨y, p2, s2, e2, a2, b2, g3, g4⟩ := pick_some s p1 s1 (2 * size + 1) hs (by omega) (by omega) (by omega)
      have hy : wrap64 (y - size) = y - size := w64 (by omega) (by omega)
      obtain ⟨r, p', sd, hr, hf', q0, q1⟩ := signal_loop s size hs h2 h3 d (out ++ [y - size]) p2 s2 (by omega) (by omega) (by simp; omega) (hf.snoc (by omega) (by omega) (by omega))
      refine ⟨r, p', sd, Evt.step (fun k => ?_) hr, hf', q0, by omega⟩
      simp only [spec_l1Cur_signal.l0]
      rw [if_pos (by omega), e1]; simp only [Option.bind_some]
      rw [if_neg (by simp), hw, e2]; simp only [Option.bind_some]
      rw [if_pos hsz, hd, hy]
theorem signal_some (s : List Int) (p seed most size : Int) (hs : Bytes s) (h0 : 0 ≤ p) (h1 : p ≤ 100000) (h2 : 0 ≤ most) (h3 : most ≤ 180) (h4 : 0 ≤ size) (h5 : size ≤ 400000) :
    ∃ r p' seed', Evt (fun k => spec_l1Cur_signal.f k s p seed most size) (r, p', seed') ∧ Fit r ∧ 0 ≤ p' ∧ p' ≤ p + 1000 := by
  obtain ⟨x, p1, s1, e1, a1, b1, g1, g2⟩ := pick_some s p seed (most + 1) hs h0 (by omega) (by omega)
  obtain ⟨r, p', sd, hr, hf, q0, q1⟩ := signal_loop s size hs h4 h5 x.toNat [] p1 s1 (by omega) (by omega) (by simp; omega) ⟨by simp, by simp⟩
  refine ⟨r, p', sd, ?_, hf, q0, by omega⟩
  unfold spec_l1Cur_signal.f
  refine Evt.bindp (by rw [w64 (by omega) (by omega)]; exact e1) ?_
  rw [Int.toNat_of_nonneg a1] at hr
  exact hr
def inB (a lo hi : Int) : Bool := decide (lo ≤ a) && decide (a ≤ hi)
theorem inB_iff {a lo hi : Int} : inB a lo hi = true ↔ lo ≤ a ∧ a ≤ hi := by simp [inB]
theorem in_val (a lo hi : Int) : impl_in.f a lo hi = some (inB a lo hi) := by
  unfold impl_in.f inB; by_cases h : lo ≤ a <;> simp [h]
theorem l1In_val (a lo hi : Int) : spec_l1In.f a lo hi = some (inB a lo hi) := by
  unfold spec_l1In.f inB; by_cases h : lo ≤ a <;> simp [h]
def sig (l : List Int) : Bool := decide (l.length ≤ 64) && l.all (fun x => decide (-100000 ≤ x) && decide (x ≤ 100000))
theorem sig_iff {l : List Int} : sig l = true ↔ l.length ≤ 64 ∧ ∀ x ∈ l, -100000 ≤ x ∧ x ≤ 100000 := by simp [sig]
theorem isSignal_val (l : List Int) : impl_isSignal.f l = some (sig l) := rfl
theorem l1All_loop (lo hi : Int) (l : List Int) (hb : l.length ≤ 1000000) : ∀ (d i : Nat), i + d = l.length →
    Evt (fun k => spec_l1All.l0 k lo hi l l.length i) ((l.drop i).all (fun x => inB x lo hi))
  | 0, i, h => by
    refine Evt.step (h := fun _ => some true) (fun k => ?_) ((Evt.ret _).eq (by rw [List.drop_of_length_le (by omega)]; rfl))
    simp only [spec_l1All.l0]; rw [if_neg (by omega)]
  | d + 1, i, h => by
    have ih := l1All_loop lo hi l hb d (i + 1) (by omega)
    have e : (l.drop i).all (fun x => inB x lo hi) = (inB (rd l i) lo hi && (l.drop (i + 1)).all (fun x => inB x lo hi)) := by rw [drop_rd l i (by omega), List.all_cons]
    rw [e]
    cases hx : inB (rd l i) lo hi with
    | true =>
      refine Evt.step (fun k => ?_) (ih.eq (by simp))
      simp only [spec_l1All.l0]
      rw [if_pos (by omega), if_pos (by omega), if_pos (by omega), l1In_val, hx]; simp only [Option.bind_some, if_true]
      rw [w64 (by omega) (by omega)]; rfl
    | false =>
      refine Evt.step (h := fun _ => some false) (fun k => ?_) ((Evt.ret _).eq (by simp))
      simp only [spec_l1All.l0]
      rw [if_pos (by omega), if_pos (by omega), if_pos (by omega), l1In_val, hx]; simp only [Option.bind_some]
      rw [if_neg (by simp)]
theorem l1All_val (l : List Int) (lo hi : Int) (hb : l.length ≤ 1000000) : Evt (fun k => spec_l1All.f k l lo hi) (l.all (fun x => inB x lo hi)) :=
  (l1All_loop lo hi l hb l.length 0 (by omega)).eq (by simp)
theorem wdSignal_val (l : List Int) : Evt (fun k => spec_wdSignal.f k l) (sig l) := by
  unfold spec_wdSignal.f sig
  by_cases h : l.length ≤ 64
  · refine Evt.pos (by omega) (Evt.bind (l1All_val l _ _ (by omega)) ((Evt.ret _).eq ?_))
    simp [h]; rfl
  · refine Evt.neg (by omega) ((Evt.ret _).eq ?_)
    simp [h]
def told (l : List Int) : List Int × Bool := if sig l = true then (l, true) else ([], false)
theorem told_val (l : List Int) : impl_told.f l = some (told l) := by
  unfold impl_told.f told; rw [isSignal_val]; simp only [Option.bind_some]; split <;> rfl
theorem iSame_loop (a b : List Int) (hl : a.length = b.length) (hb : a.length ≤ 1000000) : ∀ (d i : Nat), i + d = a.length →
    Evt (fun k => laws_iSame.l0 k a b a.length i) (decide (a.drop i = b.drop i))
  | 0, i, h => by
    refine Evt.step (h := fun _ => some true) (fun k => ?_) ((Evt.ret _).eq (by rw [List.drop_of_length_le (by omega), List.drop_of_length_le (by omega)]; rfl))
    simp only [laws_iSame.l0]; rw [if_neg (by omega)]
  | d + 1, i, h => by
    have ih := iSame_loop a b hl hb d (i + 1) (by omega)
    rw [drop_rd a i (by omega), drop_rd b i (by omega)]
    by_cases hx : rd a i = rd b i
    · refine Evt.step (fun k => ?_) (ih.eq (by simp [hx]))
      simp only [laws_iSame.l0]
      rw [if_pos (by omega), if_pos (by omega), if_pos (by omega), if_pos (by omega), if_pos hx, w64 (by omega) (by omega)]; rfl
    · refine Evt.step (h := fun _ => some false) (fun k => ?_) ((Evt.ret _).eq (by simp [hx]))
      simp only [laws_iSame.l0]
      rw [if_pos (by omega), if_pos (by omega), if_pos (by omega), if_pos (by omega), if_neg hx]
theorem iSame_val (a b : List Int) (hb : a.length ≤ 1000000) : Evt (fun k => laws_iSame.f k a b) (decide (a = b)) := by
  unfold laws_iSame.f
  by_cases h : a.length = b.length
  · exact Evt.pos (by omega) ((iSame_loop a b h hb a.length 0 (by omega)).eq (by simp))
  · exact Evt.neg (by omega) ((Evt.ret _).eq (by symm; exact decide_eq_false (fun e => h (by rw [e]))))
theorem iSame_same (a : List Int) (hb : a.length ≤ 1000000) : Evt (fun k => laws_iSame.f k a a) true := (iSame_val a a hb).eq (by simp)
theorem shl1 {y : Int} (h0 : 0 ≤ y) (h1 : y ≤ 40) : shl .i64 1 y = 2 ^ y.toNat := by
  have hp : (2 : Int) ^ y.toNat ≤ 1099511627776 := by
    have h2 : (2 : Nat) ^ y.toNat ≤ 1099511627776 := Nat.le_trans (Nat.pow_le_pow_right (n := 2) (by omega) (by omega : y.toNat ≤ 40)) (by decide)
    have e : (((2 : Nat) ^ y.toNat : Nat) : Int) = (2 : Int) ^ y.toNat := Int.natCast_pow 2 _
    rw [← e]; exact Int.ofNat_le.mpr h2
  have hq : 0 < (2 : Int) ^ y.toNat := Int.pow_pos (by omega)
  have hb64 : IntKind.i64.bits = 64 := rfl
  have hm : min y.toNat IntKind.i64.bits = y.toNat := Nat.min_eq_left (by rw [hb64]; omega)
  unfold shl
  rw [hm, i64_w, Int.one_mul]
  exact w64 (by omega) (by omega)
theorem tmod_rng {x n : Int} (hn : 0 < n) : -n < Int.tmod x n ∧ Int.tmod x n < n := ⟨Int.lt_tmod_of_pos x hn, Int.tmod_lt_of_pos x hn⟩
def pw (s : Int) : Int := 2 ^ s.toNat
theorem pw_rng {s : Int} (h0 : 0 ≤ s) (h1 : s ≤ 20) : 1 ≤ pw s ∧ pw s ≤ 1048576 := by
  have e : (((2 : Nat) ^ s.toNat : Nat) : Int) = (2 : Int) ^ s.toNat := Int.natCast_pow 2 _
  have h2 : (2 : Nat) ^ s.toNat ≤ 1048576 := Nat.le_trans (Nat.pow_le_pow_right (n := 2) (by omega) (by omega : s.toNat ≤ 20)) (by decide)
  have h3 : 1 ≤ (2 : Nat) ^ s.toNat := Nat.one_le_two_pow
  unfold pw; rw [← e]
  exact ⟨Int.ofNat_le.mpr h3, Int.ofNat_le.mpr h2⟩
theorem pw_half {s : Int} (h0 : 1 ≤ s) : pw s = 2 * pw (s - 1) := by
  unfold pw
  have e : s.toNat = (s - 1).toNat + 1 := by omega
  rw [e, Int.pow_succ, Int.mul_comm]
/-- a number that is shifted, as each mode rounds -/
def shG (x s m : Int) : Int := if m = 1 ∧ s > 0 then (x + pw (s - 1)) / pw s else if m = 2 ∧ x < 0 then -((-x) / pw s) else x / pw s
theorem floor_val {x d : Int} (hd : 0 < d) : (if Int.tmod x d < 0 then Int.tdiv x d - 1 else Int.tdiv x d) = x / d := by
  obtain ⟨t1, t2⟩ := tmod_rng (x := x) hd
  have h3 := Int.tmod_add_mul_tdiv x d
  by_cases c : Int.tmod x d < 0
  · rw [if_pos c]
    exact ((Int.ediv_emod_unique (r := Int.tmod x d + d) hd).mpr ⟨by rw [Int.mul_sub]; omega, by omega, by omega⟩).1.symm
  · rw [if_neg c]
    exact ((Int.ediv_emod_unique (r := Int.tmod x d) hd).mpr ⟨h3, by omega, by omega⟩).1.symm
theorem ceil_val {x d : Int} (hd : 0 < d) : -((-x) / d) = if x % d > 0 then x / d + 1 else x / d := by
  have a1 := Int.emod_nonneg x (by omega : d ≠ 0)
  have a2 := Int.emod_lt_of_pos x hd
  have h3 := Int.emod_add_mul_ediv x d
  by_cases c : x % d > 0
  · rw [if_pos c]
    have := ((Int.ediv_emod_unique (a := -x) (q := -(x / d) - 1) (r := d - x % d) hd).mpr ⟨by rw [Int.mul_sub, Int.mul_neg]; omega, by omega, by omega⟩).1
    omega
  · rw [if_neg c]
    have := ((Int.ediv_emod_unique (a := -x) (q := -(x / d)) (r := 0) hd).mpr ⟨by rw [Int.mul_neg]; omega, by omega, by omega⟩).1
    omega
theorem round_val {x h : Int} (hh : 0 < h) : (x + h) / (2 * h) = if 2 * (x % (2 * h)) ≥ 2 * h then x / (2 * h) + 1 else x / (2 * h) := by
  have a1 := Int.emod_nonneg x (by omega : 2 * h ≠ 0)
  have a2 := Int.emod_lt_of_pos x (by omega : 0 < 2 * h)
  have h3 := Int.emod_add_mul_ediv x (2 * h)
  by_cases c : 2 * (x % (2 * h)) ≥ 2 * h
  · rw [if_pos c]
    exact ((Int.ediv_emod_unique (r := x % (2 * h) - h) (by omega)).mpr ⟨by rw [Int.mul_add]; omega, by omega, by omega⟩).1
  · rw [if_neg c]
    exact ((Int.ediv_emod_unique (r := x % (2 * h) + h) (by omega)).mpr ⟨by omega, by omega, by omega⟩).1
theorem wdShift_val {x s m : Int} (h0 : 0 ≤ s) (h1 : s ≤ 20) (hx0 : -4000000000000000 ≤ x) (hx1 : x ≤ 4000000000000000) : Evt (fun k => spec_wdShift.f k x s m) (shG x s m) := by
  have hp := pw_rng h0 h1
  have hsh : shl .i64 1 s = pw s := shl1 h0 (by omega)
  obtain ⟨t1, t2⟩ := tmod_rng (x := x) (by omega : 0 < pw s)
  have a1 := Int.emod_nonneg x (by omega : pw s ≠ 0)
  have a2 := Int.emod_lt_of_pos x (by omega : 0 < pw s)
  have h3 := Int.emod_add_mul_ediv x (pw s)
  have hfl := floor_val (x := x) (by omega : 0 < pw s)
  have hq0 : -5000000000000000 ≤ x / pw s := (Int.le_ediv_iff_mul_le (by omega)).mpr (by omega)
  have hq1 : x / pw s ≤ 5000000000000000 := by
    rcases Int.le_total 0 x with c | c
    · exact Int.le_trans (Int.ediv_le_self _ c) (by omega)
    · have := Int.ediv_nonpos_of_nonpos_of_neg c (by omega : 0 < pw s); omega
  have hj1 : ∀ (b : Bool), (b = true → x / pw s + 1 = shG x s m) → (b = false → (if m = 2 ∧ x < 0 ∧ x % pw s > 0 then x / pw s + 1 else x / pw s) = shG x s m) → Evt (fun k => spec_wdShift.j1 k x m (x / pw s) (x % pw s) b) (shG x s m) := fun b e1 e2 => by
    refine Evt.step (h := fun _ => some (shG x s m)) (fun k => ?_) (Evt.ret _)
    simp only [spec_wdShift.j1]
    rw [w64 (x := x / pw s + 1) (by omega) (by omega)]
    cases b with
    | true => rw [if_pos rfl, e1 rfl]
    | false =>
      rw [← e2 rfl, if_neg (by simp)]
      by_cases m2 : m = 2
      · by_cases x0 : x < 0
        · by_cases r0 : x % pw s > 0
          · rw [if_pos m2, if_pos x0, if_pos r0, if_pos ⟨m2, x0, r0⟩]
          · rw [if_pos m2, if_pos x0, if_neg r0, if_neg (fun h => r0 h.2.2)]
        · rw [if_pos m2, if_neg x0, if_neg (fun h => x0 h.2.1)]
      · rw [if_neg m2, if_neg (fun h => m2 h.1)]
  have hr : wrap64 (x - wrap64 (x / pw s * pw s)) = x % pw s := by
    have e : x / pw s * pw s = x - x % pw s := by rw [Int.mul_comm]; omega
    rw [e, w64 (x := x - x % pw s) (by omega) (by omega), w64 (by omega) (by omega)]; omega
  have hj0 : Evt (fun k => spec_wdShift.j0 k x m (pw s) (x / pw s)) (shG x s m) := by
    refine Evt.step (fun k => by simp only [spec_wdShift.j0]; rw [hr]) ?_
    rw [w64 (x := 2 * (x % pw s)) (by omega) (by omega)]
    by_cases m1 : m = 1
    · refine Evt.pos m1 ?_
      by_cases s0 : s > 0
      · have hh := pw_half (s := s) (by omega)
        have hq := pw_rng (s := s - 1) (by omega) (by omega)
        have hrd := round_val (x := x) (h := pw (s - 1)) (by omega)
        rw [← hh] at hrd
        by_cases c : 2 * (x % pw s) ≥ pw s
        · rw [if_pos c] at hrd
          refine Evt.pos c (hj1 _ (fun _ => ?_) (fun e => ?_))
          · unfold shG; rw [if_pos ⟨m1, s0⟩, hrd]
          · simp at e; omega
        · rw [if_neg c] at hrd
          refine Evt.neg c (hj1 _ (fun e => by simp at e) (fun _ => ?_))
          rw [if_neg (fun h => by have := h.1; omega)]
          unfold shG; rw [if_pos ⟨m1, s0⟩, hrd]
      · have hp1 : pw s = 1 := by
          have : s = 0 := by omega
          subst this; rfl
        refine Evt.neg (by omega) (hj1 _ (fun e => by simp at e) (fun _ => ?_))
        rw [if_neg (fun h => by have := h.1; omega)]
        unfold shG; rw [if_neg (fun h => s0 h.2), if_neg (fun h => by have := h.1; omega)]
    · refine Evt.neg m1 (hj1 _ (fun e => by simp at e) (fun _ => ?_))
      have e : shG x s m = if m = 2 ∧ x < 0 then -((-x) / pw s) else x / pw s := by unfold shG; rw [if_neg (fun h => m1 h.1)]
      rw [e]
      by_cases m2 : m = 2 ∧ x < 0
      · rw [if_pos m2, ceil_val (by omega)]
        by_cases r0 : x % pw s > 0
        · rw [if_pos ⟨m2.1, m2.2, r0⟩, if_pos r0]
        · rw [if_neg (fun h => r0 h.2.2), if_neg r0]
      · rw [if_neg m2, if_neg (fun h => m2 ⟨h.1, h.2.1⟩)]
  unfold spec_wdShift.f
  refine Evt.pos h0 ?_
  rw [hsh]
  refine Evt.neg (by omega) ?_
  have hb := floor_val (x := x) (by omega : 0 < pw s)
  by_cases c : Int.tmod x (pw s) < 0
  · rw [if_pos c] at hfl
    refine Evt.pos c ?_
    rw [w64 (x := Int.tdiv x (pw s)) (by omega) (by omega), hfl, w64 (by omega) (by omega)]
    exact hj0
  · rw [if_neg c] at hfl
    refine Evt.neg c ?_
    rw [hfl, w64 (by omega) (by omega)]
    exact hj0
def wei (l : List Int) : Bool := inB l.length 1 9 && l.all (fun x => inB x (-1000) 1000)
theorem isWeights_val (l : List Int) : impl_isWeights.f l = some (wei l) := rfl
theorem weGood_val (l : List Int) : Evt (fun k => spec_weGood.f k l) (wei l) := by
  unfold spec_weGood.f wei
  refine Evt.bindp (l1In_val _ _ _) ?_
  by_cases h : inB l.length 1 9 = true
  · have hl := inB_iff.mp h
    refine Evt.pos h (Evt.bind (l1All_val l _ _ (by omega)) ((Evt.ret _).eq (by rw [h]; rfl)))
  · refine Evt.neg h ((Evt.ret _).eq (by simp at h; rw [h]; rfl))
theorem wf_bytes {l : List Int} (h : ∀ x ∈ l, (Lit.int .u8 x).wf = true) : Bytes l := fun x hx => by
  have := h x hx
  simp [Lit.wf, IntKind.min, IntKind.max, IntKind.bits, IntKind.signed] at this
  omega
theorem mul_bd {a b A B : Int} (h1 : -A ≤ a) (h2 : a ≤ A) (h3 : -B ≤ b) (h4 : b ≤ B) : -(A * B) ≤ a * b ∧ a * b ≤ A * B := by
  have e1 : (a * b).natAbs ≤ A.natAbs * B.natAbs := by
    rw [Int.natAbs_mul]; exact Nat.mul_le_mul (by omega) (by omega)
  have e2 : ((A.natAbs * B.natAbs : Nat) : Int) = A * B := by
    rw [Int.natCast_mul, Int.natAbs_of_nonneg (by omega), Int.natAbs_of_nonneg (by omega)]
  omega
/-- f 0 + .. + f (n - 1) -/
def sm (f : Nat → Int) : Nat → Int
  | 0 => 0
  | n + 1 => sm f n + f n
theorem sm_bd {f : Nat → Int} {B : Int} : ∀ (n : Nat), (∀ k, k < n → -B ≤ f k ∧ f k ≤ B) → -(n * B) ≤ sm f n ∧ sm f n ≤ n * B
  | 0, _ => by simp [sm]
  | n + 1, h => by
    have ih := sm_bd n (fun k hk => h k (by omega))
    have := h n (by omega)
    have e : ((n + 1 : Nat) : Int) * B = n * B + B := by rw [Int.natCast_add, Int.add_mul]; simp
    rw [e]; simp only [sm]; omega
theorem sm_congr {f g : Nat → Int} : ∀ (n : Nat), (∀ k, k < n → f k = g k) → sm f n = sm g n
  | 0, _ => rfl
  | n + 1, h => by simp only [sm]; rw [sm_congr n (fun k hk => h k (by omega)), h n (by omega)]
theorem sm_more {f : Nat → Int} {m : Nat} : ∀ (d : Nat), (∀ k, m ≤ k → f k = 0) → sm f (m + d) = sm f m
  | 0, _ => rfl
  | d + 1, h => by
    show sm f (m + d) + f (m + d) = _
    rw [sm_more d h, h _ (by omega)]; omega
/-- a sample, or 0 where there is none -/
def S (s : List Int) (i : Int) : Int := if 0 ≤ i ∧ i < s.length then rd s i else 0
theorem S_in {s : List Int} {i : Int} (h0 : 0 ≤ i) (h1 : i < s.length) : S s i = rd s i := if_pos ⟨h0, h1⟩
theorem S_out {s : List Int} {i : Int} (h : ¬ (0 ≤ i ∧ i < s.length)) : S s i = 0 := if_neg h
theorem S_bd {s : List Int} {B : Int} (hB : 0 ≤ B) (h : ∀ x ∈ s, -B ≤ x ∧ x ≤ B) (i : Int) : -B ≤ S s i ∧ S s i ≤ B := by
  unfold S; split
  · rename_i c; exact h _ (rd_mem c.1 c.2)
  · omega
/-- the sum of the products of the first m weights at the place n -/
def cv (h s : List Int) (n : Int) (m : Nat) : Int := sm (fun k => rd h k * S s (n - k)) m
theorem cv_bd {h s : List Int} (hh : ∀ x ∈ h, -1000 ≤ x ∧ x ≤ 1000) (hs : ∀ x ∈ s, -100000 ≤ x ∧ x ≤ 100000) (n : Int) {m : Nat} (hm : m ≤ h.length) (h9 : m ≤ 64) :
    -6400000000 ≤ cv h s n m ∧ cv h s n m ≤ 6400000000 := by
  have := sm_bd (f := fun k => rd h k * S s (n - k)) (B := 100000000) m (fun k hk => by
    have a := hh _ (rd_mem (l := h) (i := k) (by omega) (by omega))
    have b := S_bd (by omega) hs (n - k)
    have := mul_bd a.1 a.2 b.1 b.2
    omega)
  unfold cv; omega
/-- what the list holds when the weights before k are done, and so many samples of the weight k -/
def ansL (h s : List Int) (k i : Nat) : List Int :=
  (List.range (h.length + s.length - 1)).map (fun j : Nat => cv h s j k + if k ≤ j ∧ j < k + i then rd h k * rd s ((j : Int) - k) else 0)
theorem rd_map {n : Nat} (f : Nat → Int) {j : Nat} (h : j < n) : rd ((List.range n).map f) j = f j := by
  rw [rd_lt (by simpa using h)]; simp
theorem ansL_len (h s : List Int) (k i : Nat) : (ansL h s k i).length = h.length + s.length - 1 := by simp [ansL]
theorem ansL_set (h s : List Int) {k i : Nat} (hk : k < h.length) (hi : i < s.length) :
    (ansL h s k i).set (i + k) (rd (ansL h s k i) ((i + k : Nat) : Int) + rd h k * rd s i) = ansL h s k (i + 1) := by
  have hj : i + k < h.length + s.length - 1 := by omega
  have e : rd (ansL h s k i) ((i + k : Nat) : Int) = cv h s ((i + k : Nat) : Int) k := by
    unfold ansL; rw [rd_map _ hj, if_neg (by omega)]; omega
  rw [e]
  apply List.ext_getElem
  · simp [ansL_len]
  · intro j h1 h2
    simp only [ansL_len, List.length_set] at h1 h2
    rw [List.getElem_set]
    by_cases c : i + k = j
    · subst c
      rw [if_pos rfl]
      simp only [ansL, List.getElem_map, List.getElem_range]
      rw [if_pos (by omega)]
      have : ((i + k : Nat) : Int) - k = i := by omega
      rw [this]
    · rw [if_neg c]
      simp only [ansL, List.getElem_map, List.getElem_range]
      by_cases d : k ≤ j ∧ j < k + i
      · rw [if_pos d, if_pos (by omega)]
      · rw [if_neg d, if_neg (by omega)]
theorem ansL_next (h s : List Int) (k : Nat) : ansL h s k s.length = ansL h s (k + 1) 0 := by
  unfold ansL
  apply List.map_congr_left
  intro j _
  rw [if_neg (c := k + 1 ≤ j ∧ j < k + 1 + 0) (by omega)]
  show _ = (cv h s j k + rd h k * S s (j - k)) + 0
  by_cases d : k ≤ j ∧ j < k + s.length
  · rw [if_pos d, S_in (by omega) (by omega)]; omega
  · rw [if_neg d, S_out (by omega)]; omega
theorem ansL_start (h s : List Int) : ansL h s 0 0 = List.replicate (h.length + s.length - 1) 0 := by
  unfold ansL
  apply List.ext_getElem
  · simp
  · intro j h1 h2
    simp only [List.getElem_map, List.getElem_range, List.getElem_replicate]
    rw [if_neg (by omega)]; rfl
/-- the answer -/
def ans (h s : List Int) : List Int := (List.range (h.length + s.length - 1)).map (fun j : Nat => cv h s j h.length)
theorem ans_in (h s : List Int) (hh : ∀ x ∈ h, -1000 ≤ x ∧ x ≤ 1000) (hs : ∀ x ∈ s, -100000 ≤ x ∧ x ≤ 100000) (hl : h.length ≤ 64) (hn : s.length ≤ 1000) (k : Nat) (hk : k < h.length) :
    ∀ (r : List Int), Evt (fun q => impl_answer.l0 q s (ansL h s k s.length) h h.length (k + 1 : Nat)) r →
    ∀ (d i : Nat), i + d = s.length → Evt (fun q => impl_answer.l1 q s (ansL h s k i) k (rd h k) h h.length k s s.length i) r
  | r, ho, 0, i, hd => by
    have : i = s.length := by omega
    subst this
    refine Evt.step (fun q => ?_) ho
    simp only [impl_answer.l1]
    rw [if_neg (by omega), w64 (by omega) (by omega)]; rfl
  | r, ho, d + 1, i, hd => by
    have ih := ans_in h s hh hs hl hn k hk r ho d (i + 1) (by omega)
    refine Evt.step (fun q => ?_) ih
    have a := hh _ (rd_mem (l := h) (i := k) (by omega) (by omega))
    have b := hs _ (rd_mem (l := s) (i := i) (by omega) (by omega))
    have ab := mul_bd a.1 a.2 b.1 b.2
    have c := cv_bd hh hs ((i + k : Nat) : Int) (m := k) (by omega) (by omega)
    have hj : i + k < h.length + s.length - 1 := by omega
    have e : rd (ansL h s k i) ((i + k : Nat) : Int) = cv h s ((i + k : Nat) : Int) k := by
      unfold ansL; rw [rd_map _ hj, if_neg (by omega)]; omega
    have hL := ansL_len h s k i
    have hset := ansL_set h s hk (i := i) (by omega)
    have ew : wrap64 ((i : Int) + k) = ((i + k : Nat) : Int) := by rw [w64 (by omega) (by omega)]; omega
    have e1 : wrap64 (rd h k * rd s i) = rd h k * rd s i := by clear e hset; generalize rd h k * rd s i = p at *; exact w64 (by omega) (by omega)
    have e2 : wrap64 (rd (ansL h s k i) ((i + k : Nat) : Int) + rd h k * rd s i) = rd (ansL h s k i) ((i + k : Nat) : Int) + rd h k * rd s i := by
      rw [e]; clear e hset e1; generalize rd h k * rd s i = p at *; exact w64 (by omega) (by omega)
    have e3 : wrap64 ((i : Int) + 1) = ((i + 1 : Nat) : Int) := by clear e hset e1 e2 ab; rw [w64 (by omega) (by omega)]; rfl
    clear e ab
    simp only [impl_answer.l1]
    rw [ew, e1, e2, e3, Int.toNat_natCast, hset]
    clear e1 e2 hset ew e3
    rw [if_pos (by omega), if_pos (by omega), if_pos (by omega), if_pos (by omega), if_pos (by omega)]
theorem ans_out (h s : List Int) (hh : ∀ x ∈ h, -1000 ≤ x ∧ x ≤ 1000) (hs : ∀ x ∈ s, -100000 ≤ x ∧ x ≤ 100000) (hl : h.length ≤ 64) (hn : s.length ≤ 1000) :
    ∀ (d k : Nat), k + d = h.length → Evt (fun q => impl_answer.l0 q s (ansL h s k 0) h h.length k) (ans h s)
  | 0, k, hd => by
    have : k = h.length := by omega
    subst this
    refine Evt.step (h := fun _ => some (ans h s)) (fun q => ?_) (Evt.ret _)
    simp only [impl_answer.l0]
    rw [if_neg (by omega)]
    congr 1
    unfold ansL ans
    apply List.map_congr_left
    intro j _
    rw [if_neg (by omega)]; omega
  | d + 1, k, hd => by
    have ih := ans_out h s hh hs hl hn d (k + 1) (by omega)
    rw [← ansL_next] at ih
    refine Evt.step (fun q => ?_) (ans_in h s hh hs hl hn k (by omega) _ ih s.length 0 (by omega))
    simp only [impl_answer.l0]
    rw [if_pos (by omega), if_pos (by omega), if_pos (by omega)]; rfl
theorem answer_val (h s : List Int) (hh : ∀ x ∈ h, -1000 ≤ x ∧ x ≤ 1000) (hs : ∀ x ∈ s, -100000 ≤ x ∧ x ≤ 100000) (h1 : 1 ≤ h.length) (hl : h.length ≤ 64) (hn : s.length ≤ 1000) :
    Evt (fun q => impl_answer.f q h s) (if s.length = 0 then [] else ans h s) := by
  unfold impl_answer.f
  by_cases c : s.length = 0
  · rw [if_pos c]; exact Evt.pos (by omega) (Evt.ret _)
  · rw [if_neg c]
    refine Evt.neg (by omega) ?_
    have ew : wrap64 (wrap64 ((h.length : Int) + s.length) - 1) = ((h.length + s.length - 1 : Nat) : Int) := by
      rw [w64 (x := (h.length : Int) + s.length) (by omega) (by omega), w64 (by omega) (by omega)]; omega
    rw [ew, Int.toNat_natCast]
    refine Evt.pos (by omega) (Evt.pos (by omega) ?_)
    rw [← ansL_start]
    exact ans_out h s hh hs hl hn h.length 0 (by omega)
theorem wans_in (h s : List Int) (hh : ∀ x ∈ h, -1000 ≤ x ∧ x ≤ 1000) (hs : ∀ x ∈ s, -100000 ≤ x ∧ x ≤ 100000) (hl : h.length ≤ 64) (hn : s.length ≤ 1000) (k : Nat) (hk : k < h.length) :
    ∀ (r : List Int), Evt (fun q => spec_weAnswer.l0 q s (ansL h s k s.length) h h.length (k + 1 : Nat)) r →
    ∀ (d i : Nat), i + d = s.length → Evt (fun q => spec_weAnswer.l1 q s (ansL h s k i) k (rd h k) h h.length k s s.length i) r
  | r, ho, 0, i, hd => by
    have : i = s.length := by omega
    subst this
    refine Evt.step (fun q => ?_) ho
    simp only [spec_weAnswer.l1]
    rw [if_neg (by omega), w64 (by omega) (by omega)]; rfl
  | r, ho, d + 1, i, hd => by
    have ih := wans_in h s hh hs hl hn k hk r ho d (i + 1) (by omega)
    refine Evt.step (fun q => ?_) ih
    have a := hh _ (rd_mem (l := h) (i := k) (by omega) (by omega))
    have b := hs _ (rd_mem (l := s) (i := i) (by omega) (by omega))
    have ab := mul_bd a.1 a.2 b.1 b.2
    have c := cv_bd hh hs ((i + k : Nat) : Int) (m := k) (by omega) (by omega)
    have hj : i + k < h.length + s.length - 1 := by omega
    have e : rd (ansL h s k i) ((i + k : Nat) : Int) = cv h s ((i + k : Nat) : Int) k := by
      unfold ansL; rw [rd_map _ hj, if_neg (by omega)]; omega
    have hL := ansL_len h s k i
    have hset := ansL_set h s hk (i := i) (by omega)
    have ew : wrap64 ((k : Int) + i) = ((i + k : Nat) : Int) := by rw [w64 (by omega) (by omega)]; omega
    have e1 : wrap64 (rd h k * rd s i) = rd h k * rd s i := by clear e hset; generalize rd h k * rd s i = p at *; exact w64 (by omega) (by omega)
    have e2 : wrap64 (rd (ansL h s k i) ((i + k : Nat) : Int) + rd h k * rd s i) = rd (ansL h s k i) ((i + k : Nat) : Int) + rd h k * rd s i := by
      rw [e]; clear e hset e1; generalize rd h k * rd s i = p at *; exact w64 (by omega) (by omega)
    have e3 : wrap64 ((i : Int) + 1) = ((i + 1 : Nat) : Int) := by clear e hset e1 e2 ab; rw [w64 (by omega) (by omega)]; rfl
    clear e ab
    simp only [spec_weAnswer.l1]
    rw [ew, e1, e2, e3, Int.toNat_natCast, hset]
    clear e1 e2 hset ew e3
    rw [if_pos (by omega), if_pos (by omega), if_pos (by omega), if_pos (by omega), if_pos (by omega)]
theorem wans_out (h s : List Int) (hh : ∀ x ∈ h, -1000 ≤ x ∧ x ≤ 1000) (hs : ∀ x ∈ s, -100000 ≤ x ∧ x ≤ 100000) (hl : h.length ≤ 64) (hn : s.length ≤ 1000) :
    ∀ (d k : Nat), k + d = h.length → Evt (fun q => spec_weAnswer.l0 q s (ansL h s k 0) h h.length k) (ans h s)
  | 0, k, hd => by
    have : k = h.length := by omega
    subst this
    refine Evt.step (h := fun _ => some (ans h s)) (fun q => ?_) (Evt.ret _)
    simp only [spec_weAnswer.l0]
    rw [if_neg (by omega)]
    congr 1
    unfold ansL ans
    apply List.map_congr_left
    intro j _
    rw [if_neg (by omega)]; omega
  | d + 1, k, hd => by
    have ih := wans_out h s hh hs hl hn d (k + 1) (by omega)
    rw [← ansL_next] at ih
    refine Evt.step (fun q => ?_) (wans_in h s hh hs hl hn k (by omega) _ ih s.length 0 (by omega))
    simp only [spec_weAnswer.l0]
    rw [if_pos (by omega), if_pos (by omega), if_pos (by omega)]; rfl
theorem weAnswer_val (h s : List Int) (hh : ∀ x ∈ h, -1000 ≤ x ∧ x ≤ 1000) (hs : ∀ x ∈ s, -100000 ≤ x ∧ x ≤ 100000) (h1 : 1 ≤ h.length) (hl : h.length ≤ 64) (hn : s.length ≤ 1000) :
    Evt (fun q => spec_weAnswer.f q h s) (if s.length = 0 then [] else ans h s) := by
  unfold spec_weAnswer.f
  by_cases c : s.length = 0
  · rw [if_pos c]; exact Evt.pos (by omega) (Evt.ret _)
  · rw [if_neg c]
    refine Evt.neg (by omega) ?_
    have ew : wrap64 (wrap64 ((h.length : Int) + s.length) - 1) = ((h.length + s.length - 1 : Nat) : Int) := by
      rw [w64 (x := (h.length : Int) + s.length) (by omega) (by omega), w64 (by omega) (by omega)]; omega
    rw [ew, Int.toNat_natCast]
    refine Evt.pos (by omega) (Evt.pos (by omega) ?_)
    rw [← ansL_start]
    exact wans_out h s hh hs hl hn h.length 0 (by omega)
theorem ans_take (h s : List Int) (h1 : 1 ≤ h.length) : ((if s.length = 0 then [] else ans h s).take s.length) = (List.range s.length).map (fun j : Nat => cv h s j h.length) := by
  by_cases c : s.length = 0
  · rw [if_pos c]; simp [c]
  · rw [if_neg c]; unfold ans
    rw [← List.map_take, List.take_range, Nat.min_eq_left (by omega)]
theorem wei_iff {l : List Int} : wei l = true ↔ (1 ≤ l.length ∧ l.length ≤ 9) ∧ ∀ x ∈ l, -1000 ≤ x ∧ x ≤ 1000 := by
  unfold wei; rw [Bool.and_eq_true, inB_iff, List.all_eq_true]
  constructor
  · rintro ⟨a, b⟩; exact ⟨by omega, fun x hx => inB_iff.mp (b x hx)⟩
  · rintro ⟨a, b⟩; exact ⟨by omega, fun x hx => inB_iff.mpr (b x hx)⟩
theorem range_snoc {α : Type} (f : Nat → α) (n : Nat) : (List.range n).map f ++ [f n] = (List.range (n + 1)).map f := by rw [List.range_succ, List.map_append]; rfl
theorem least_val (a b : Int) : spec_l1Least.f a b = some (mn a b) := by unfold spec_l1Least.f mn; split <;> split <;> first | rfl | (congr 1; omega)
theorem back_loop (l : List Int) (hl : l.length ≤ 1000000) : ∀ (n : Nat) (out : List Int), n ≤ l.length → out.length + n ≤ 1000000 → ∃ r, Evt (fun k => spec_weBack.l0 k l out ((n : Int) - 1)) r ∧ r.length = out.length + n
  | 0, out, h, ho => ⟨out, Evt.step (h := fun _ => some out) (fun k => by simp only [spec_weBack.l0]; rw [if_neg (by omega)]) (Evt.ret _), by omega⟩
  | n + 1, out, h, ho => by
    obtain ⟨r, a, b⟩ := back_loop l hl n (out ++ [rd l n]) (by omega) (by simp; omega)
    have e0 : ((n + 1 : Nat) : Int) - 1 = n := by omega
    have e1 : wrap64 ((n : Int) - 1) = (n : Int) - 1 := w64 (by omega) (by omega)
    refine ⟨r, Evt.step (fun k => ?_) a, by rw [b]; simp; omega⟩
    simp only [spec_weBack.l0]
    rw [e0, e1]
    clear e1
    rw [if_pos (by omega), if_pos (by omega), if_pos (by omega), if_pos (by omega)]
theorem back_some (l : List Int) (hl : l.length ≤ 1000) : ∃ r, Evt (fun k => spec_weBack.f k l) r ∧ r.length = l.length := by
  obtain ⟨r, a, b⟩ := back_loop l (by omega) l.length [] (Nat.le_refl _) (by simp; omega)
  refine ⟨r, ?_, by simpa using b⟩
  unfold spec_weBack.f
  rw [w64 (x := (l.length : Int) - 1) (by omega) (by omega)]
  exact a
theorem scale_loop (l : List Int) (x : Int) (hl : l.length ≤ 1000) : ∀ (d n : Nat) (out : List Int), n + d = l.length → out.length + d ≤ 1000 → ∃ r, Evt (fun k => spec_wdScale.l0 k x out l l.length n) r ∧ r.length = out.length + d
  | 0, n, out, h, ho => ⟨out, Evt.step (h := fun _ => some out) (fun k => by simp only [spec_wdScale.l0]; rw [if_neg (by omega)]) (Evt.ret _), by omega⟩
  | d + 1, n, out, h, ho => by
    obtain ⟨r, a, b⟩ := scale_loop l x hl d (n + 1) (out ++ [wrap64 (x * rd l n)]) (by omega) (by simp; omega)
    have e1 : wrap64 ((n : Int) + 1) = ((n + 1 : Nat) : Int) := by rw [w64 (by omega) (by omega)]; rfl
    refine ⟨r, Evt.step (fun k => ?_) a, by rw [b]; simp; omega⟩
    simp only [spec_wdScale.l0]
    rw [e1]
    clear e1
    rw [if_pos (by omega), if_pos (by omega), if_pos (by omega), if_pos (by omega)]
theorem scale_some (l : List Int) (x : Int) (hl : l.length ≤ 1000) : ∃ r, Evt (fun k => spec_wdScale.f k l x) r ∧ r.length = l.length := by
  obtain ⟨r, a, b⟩ := scale_loop l x hl l.length 0 [] (by omega) (by simp; omega)
  exact ⟨r, a, by simpa using b⟩
theorem among2_some (s : List Int) (p seed : Int) (a b : List Int) (hs : Bytes s) (h0 : 0 ≤ p) (h1 : p ≤ 900000) :
    ∃ r p' seed', spec_l1Cur_among2.f s p seed a b = some (r, p', seed') ∧ (r = a ∨ r = b) ∧ p ≤ p' ∧ p' ≤ p + 2 := by
  obtain ⟨c, p1, s1, e, g1, g2⟩ := one_some s p seed 2 hs h0 h1 (by omega)
  unfold spec_l1Cur_among2.f
  rw [e]; simp only [Option.bind_some]
  cases c with
  | true => exact ⟨_, _, _, by rw [if_pos rfl], Or.inl rfl, g1, g2⟩
  | false => exact ⟨_, _, _, by rw [if_neg (by simp)], Or.inr rfl, g1, g2⟩
theorem weights_loop (s : List Int) (hs : Bytes s) : ∀ (d : Nat) (out : List Int) (p seed : Int), 0 ≤ p → p + 4 * d + 10 ≤ 900000 → out.length + d ≤ 100 →
    ∃ r p' seed', Evt (fun k => spec_l1Cur_weights.l0 k out d s p seed) (r, p', seed') ∧ r.length ≤ 210 ∧ p ≤ p' ∧ p' ≤ p + 4 * d + 10
  | 0, out, p, seed, h0, h1, hl => by
    obtain ⟨x, p1, s1, e1, a1, b1, g1, g2⟩ := pick_some s p seed 16 hs h0 (by omega) (by omega)
    suffices ∃ r p' seed', Evt (fun k => if x = 0 then ((spec_l1Cur_among2.f s p1 s1 out (([] : List Int))).bind fun bt176 => (some (bt176.1, bt176.2.1, bt176.2.2))) else (if x = 1 then ((spec_l1Cur_among.f s p1 s1 (([1000, (-1000), 1001, 4611686018427387904] : List Int))).bind fun bt184 => (if out.length < 17592186044416 then (some ((out ++ [bt184.1]), bt184.2.1, bt184.2.2)) else (none))) else (if x = 2 then ((spec_l1Cur_pick.f s p1 s1 2).bind fun bt190 => (if 0 ≤ (wrap64 (9 + bt190.1)) then (if (wrap64 (9 + bt190.1) : Int).toNat ≤ 35184372088832 then (some ((List.replicate (wrap64 (9 + bt190.1) : Int).toNat 0), bt190.2.1, bt190.2.2)) else (none)) else (none))) else (if x = 3 then ((spec_weBack.f k out).bind fun t196 => (if t196.length + out.length < 17592186044416 then (some ((t196 ++ out), p1, s1)) else (none))) else (if x = 4 then ((spec_weBack.f k out).bind fun t202 => ((spec_wdScale.f k t202 (-1)).bind fun t205 => (if t205.length + out.length < 17592186044416 then (some ((t205 ++ out), p1, s1)) else (none)))) else (some (out, p1, s1))))))) (r, p', seed') ∧ r.length ≤ 210 ∧ p ≤ p' ∧ p' ≤ p + 10 by
      obtain ⟨r, p', sd, hr, q1, q2, q3⟩ := this
      refine ⟨r, p', sd, Evt.step (fun k => ?_) hr, q1, q2, by omega⟩
      simp only [spec_l1Cur_weights.l0]
      rw [if_neg (by omega), e1]; rfl
    by_cases c0 : x = 0
    · obtain ⟨r, p2, s2, e2, hr, g3, g4⟩ := among2_some s p1 s1 out [] hs (by omega) (by omega)
      refine ⟨r, p2, s2, Evt.pos c0 (Evt.bindp e2 (Evt.ret _)), ?_, by omega, by omega⟩
      rcases hr with rfl | rfl
      · omega
      · simp
    by_cases c1 : x = 1
    · obtain ⟨y, p2, s2, e2, m2, g3, g4⟩ := among_some s p1 s1 [1000, (-1000), 1001, 4611686018427387904] hs (by omega) (by omega) (by simp) (by simp)
      exact ⟨out ++ [y], p2, s2, Evt.neg c0 (Evt.pos c1 (Evt.bindp e2 (Evt.pos (by omega) (Evt.ret _)))), by simp; omega, by omega, by omega⟩
    by_cases c2 : x = 2
    · obtain ⟨y, p2, s2, e2, a2, b2, g3, g4⟩ := pick_some s p1 s1 2 hs (by omega) (by omega) (by omega)
      have hw : wrap64 (9 + y) = 9 + y := w64 (by omega) (by omega)
      refine ⟨List.replicate (9 + y).toNat 0, p2, s2, Evt.neg c0 (Evt.neg c1 (Evt.pos c2 (Evt.bindp e2 ?_))), by simp; omega, by omega, by omega⟩
      simp only [hw]
      exact Evt.pos (by omega) (Evt.pos (by omega) (Evt.ret _))
    by_cases c3 : x = 3
    · obtain ⟨t, e, hl'⟩ := back_some out (by omega)
      exact ⟨t ++ out, p1, s1, Evt.neg c0 (Evt.neg c1 (Evt.neg c2 (Evt.pos c3 (Evt.bind e (Evt.pos (by omega) (Evt.ret _)))))), by simp; omega, by omega, by omega⟩
    by_cases c4 : x = 4
    · obtain ⟨t, e, hl'⟩ := back_some out (by omega)
      obtain ⟨u, e', hl''⟩ := scale_some t (-1) (by omega)
      exact ⟨u ++ out, p1, s1, Evt.neg c0 (Evt.neg c1 (Evt.neg c2 (Evt.neg c3 (Evt.pos c4 (Evt.bind e (Evt.bind e' (Evt.pos (by omega) (Evt.ret _)))))))), by simp; omega, by omega, by omega⟩
    exact ⟨out, p1, s1, Evt.neg c0 (Evt.neg c1 (Evt.neg c2 (Evt.neg c3 (Evt.neg c4 (Evt.ret _))))), by omega, by omega, by omega⟩
  | d + 1, out, p, seed, h0, h1, hl => by
    obtain ⟨x, p1, s1, e1, a1, b1, g1, g2⟩ := pick_some s p seed 9 hs h0 (by omega) (by omega)
    obtain ⟨r, p', sd, hr, q1, q2, q3⟩ := weights_loop s hs d (out ++ [wrap64 (x - 4)]) p1 s1 (by omega) (by omega) (by simp; omega)
    have hd : wrap64 (((d + 1 : Nat) : Int) - 1) = (d : Int) := by rw [w64 (by omega) (by omega)]; omega
    refine ⟨r, p', sd, Evt.step (fun k => ?_) hr, q1, by omega, by omega⟩
    simp only [spec_l1Cur_weights.l0]
    rw [if_pos (by omega), e1]; simp only [Option.bind_some]
    rw [hd]
    clear hd
    rw [if_pos (by omega)]
theorem weights_some (s : List Int) (p seed : Int) (hs : Bytes s) (h0 : 0 ≤ p) (h1 : p ≤ 800000) :
    ∃ r p' seed', Evt (fun k => spec_l1Cur_weights.f k s p seed) (r, p', seed') ∧ r.length ≤ 210 ∧ p ≤ p' ∧ p' ≤ p + 50 := by
  obtain ⟨x, p1, s1, e1, a1, b1, g1, g2⟩ := pick_some s p seed 5 hs h0 (by omega) (by omega)
  obtain ⟨r, p', sd, hr, q1, q2, q3⟩ := weights_loop s hs (1 + x).toNat [] p1 s1 (by omega) (by omega) (by simp; omega)
  refine ⟨r, p', sd, ?_, q1, by omega, by omega⟩
  unfold spec_l1Cur_weights.f
  refine Evt.bindp e1 ?_
  rw [Int.toNat_of_nonneg (by omega)] at hr
  have hw : wrap64 (1 + x) = 1 + x := w64 (by omega) (by omega)
  simp only [hw]
  exact hr
/-- how many are kept of m from the index r on, each p-th -/
def dcnt (m r p : Nat) : Nat := (m - r + (p - 1)) / p
theorem dcnt_lt {m r p j : Nat} (hp : 0 < p) : j < dcnt m r p ↔ r + j * p < m := by
  unfold dcnt
  rw [Nat.lt_iff_add_one_le, Nat.le_div_iff_mul_le hp, Nat.add_mul]
  omega
theorem dcnt_le {m r p : Nat} (hp : 0 < p) : dcnt m r p ≤ m := by
  rcases Nat.lt_or_ge m (dcnt m r p) with h | h
  · have h1 := (dcnt_lt (m := m) (r := r) (j := m) hp).mp h
    have : m * 1 ≤ m * p := Nat.mul_le_mul_left m hp
    omega
  · exact h
def dropL (l : List Int) (p r : Nat) : List Int := (List.range (dcnt l.length r p)).map (fun j : Nat => rd l ((r + j * p : Nat) : Int))
theorem dropL_len (l : List Int) (p r : Nat) : (dropL l p r).length = dcnt l.length r p := by simp [dropL]
theorem dropL_rd {l : List Int} {p r j : Nat} (h : j < dcnt l.length r p) : rd (dropL l p r) j = rd l ((r + j * p : Nat) : Int) := rd_map _ h
theorem dropL_mem {l : List Int} {p r : Nat} (hp : 0 < p) {x : Int} (h : x ∈ dropL l p r) : x ∈ l := by
  obtain ⟨j, hj, rfl⟩ := List.mem_map.mp h
  have := (dcnt_lt hp).mp (List.mem_range.mp hj)
  exact rd_mem (by omega) (by omega)
theorem drop_loop (l : List Int) (p r : Nat) (hp : 0 < p) (hp8 : p ≤ 1000) (hr : r ≤ 1000) (hl : l.length ≤ 1000000) : ∀ (d j : Nat), j + d = dcnt l.length r p →
    Evt (fun k => impl_drop.l0 k l p ((List.range j).map (fun j : Nat => rd l ((r + j * p : Nat) : Int))) ((r + j * p : Nat) : Int)) (dropL l p r)
  | 0, j, hd => by
    have hn : ¬ r + j * p < l.length := fun h => by have := (dcnt_lt hp).mpr h; omega
    refine Evt.step (h := fun _ => some (dropL l p r)) (fun k => ?_) (Evt.ret _)
    simp only [impl_drop.l0]
    rw [if_neg (by omega)]
    have : j = dcnt l.length r p := by omega
    subst this
    rfl
  | d + 1, j, hd => by
    have ih := drop_loop l p r hp hp8 hr hl d (j + 1) (by omega)
    have hn : r + j * p < l.length := (dcnt_lt hp).mp (by omega)
    have hj : j < l.length := by have := dcnt_le (m := l.length) (r := r) hp; omega
    have e : wrap64 (((r + j * p : Nat) : Int) + p) = ((r + (j + 1) * p : Nat) : Int) := by
      have e0 : (j + 1) * p = j * p + p := by rw [Nat.add_mul]; omega
      rw [e0]
      generalize j * p = q at *
      rw [w64 (by omega) (by omega)]; omega
    refine Evt.step (fun k => ?_) ih
    simp only [impl_drop.l0]
    rw [e]
    clear e
    rw [if_pos (by omega), if_pos (by omega), if_pos (by simp; omega), range_snoc (fun j : Nat => rd l ((r + j * p : Nat) : Int)) j]
theorem drop_val (l : List Int) {p r : Nat} (hp : 0 < p) (hp8 : p ≤ 1000) (hr : r ≤ 1000) (hl : l.length ≤ 1000000) : Evt (fun k => impl_drop.f k l p r) (dropL l p r) := by
  have := drop_loop l p r hp hp8 hr hl (dcnt l.length r p) 0 (by omega)
  rw [Nat.zero_mul] at this
  exact this
theorem cbDrop_loop (l : List Int) (p r : Nat) (hp : 0 < p) (hp8 : p ≤ 1000) (hr : r ≤ 1000) (hl : l.length ≤ 1000000) : ∀ (d j : Nat), j + d = dcnt l.length r p →
    Evt (fun k => spec_cbDrop.l0 k l p ((List.range j).map (fun j : Nat => rd l ((r + j * p : Nat) : Int))) ((r + j * p : Nat) : Int)) (dropL l p r)
  | 0, j, hd => by
    have hn : ¬ r + j * p < l.length := fun h => by have := (dcnt_lt hp).mpr h; omega
    refine Evt.step (h := fun _ => some (dropL l p r)) (fun k => ?_) (Evt.ret _)
    simp only [spec_cbDrop.l0]
    rw [if_neg (by omega)]
    have : j = dcnt l.length r p := by omega
    subst this
    rfl
  | d + 1, j, hd => by
    have ih := cbDrop_loop l p r hp hp8 hr hl d (j + 1) (by omega)
    have hn : r + j * p < l.length := (dcnt_lt hp).mp (by omega)
    have hj : j < l.length := by have := dcnt_le (m := l.length) (r := r) hp; omega
    have e : wrap64 (((r + j * p : Nat) : Int) + p) = ((r + (j + 1) * p : Nat) : Int) := by
      have e0 : (j + 1) * p = j * p + p := by rw [Nat.add_mul]; omega
      rw [e0]
      generalize j * p = q at *
      rw [w64 (by omega) (by omega)]; omega
    refine Evt.step (fun k => ?_) ih
    simp only [spec_cbDrop.l0]
    rw [e]
    clear e
    rw [if_pos (by omega), if_pos (by omega), if_pos (by simp; omega), range_snoc (fun j : Nat => rd l ((r + j * p : Nat) : Int)) j]
theorem cbDrop_val (l : List Int) {p r : Nat} (hp : 0 < p) (hp8 : p ≤ 1000) (hr : r ≤ 1000) (hl : l.length ≤ 1000000) : Evt (fun k => spec_cbDrop.f k l p r) (dropL l p r) := by
  have := cbDrop_loop l p r hp hp8 hr hl (dcnt l.length r p) 0 (by omega)
  rw [Nat.zero_mul] at this
  exact this
def stF (s : List Int) (p j : Nat) : Int := if j % p = 0 then rd s ((j / p : Nat) : Int) else 0
def stfL (s : List Int) (p : Nat) : List Int := (List.range (s.length * p)).map (stF s p)
theorem stfL_len (s : List Int) (p : Nat) : (stfL s p).length = s.length * p := by simp [stfL]
/-- with the samples before the place i -/
def stI (s : List Int) (p i : Nat) : List Int := (List.range (s.length * p)).map (fun j : Nat => if j % p = 0 ∧ j / p < i then rd s ((j / p : Nat) : Int) else 0)
theorem stI_set (s : List Int) {p i : Nat} (hp : 0 < p) (hi : i < s.length) : (stI s p i).set (i * p) (rd s i) = stI s p (i + 1) := by
  apply List.ext_getElem
  · simp [stI]
  · intro j h1 h2
    rw [List.getElem_set]
    simp only [stI, List.getElem_map, List.getElem_range]
    by_cases c : i * p = j
    · subst c
      rw [if_pos rfl, if_pos ⟨Nat.mul_mod_left i p, by rw [Nat.mul_div_cancel _ hp]; omega⟩, Nat.mul_div_cancel _ hp]
    · rw [if_neg c]
      by_cases d : j % p = 0 ∧ j / p < i
      · rw [if_pos d, if_pos ⟨d.1, by omega⟩]
      · rw [if_neg d]
        by_cases e : j % p = 0 ∧ j / p < i + 1
        · exfalso
          have e1 : j / p = i := by
            rcases Nat.lt_or_ge (j / p) i with h | h
            · exact absurd ⟨e.1, h⟩ d
            · omega
          have e2 := Nat.div_add_mod j p
          rw [e.1, e1, Nat.mul_comm] at e2
          exact c (by omega)
        · rw [if_neg e]
theorem stI_zero (s : List Int) (p : Nat) : stI s p 0 = List.replicate (s.length * p) 0 := by
  apply List.ext_getElem
  · simp [stI]
  · intro j h1 h2
    simp only [stI, List.getElem_map, List.getElem_range, List.getElem_replicate]
    rw [if_neg (fun h => absurd h.2 (Nat.not_lt_zero _))]
theorem stI_all (s : List Int) {p : Nat} (hp : 0 < p) : stI s p s.length = stfL s p := by
  unfold stI stfL
  apply List.map_congr_left
  intro j hj
  unfold stF
  have hj' := List.mem_range.mp hj
  have : j / p < s.length := (Nat.div_lt_iff_lt_mul hp).mpr hj'
  by_cases c : j % p = 0
  · rw [if_pos ⟨c, this⟩, if_pos c]
  · rw [if_neg (fun h => c h.1), if_neg c]
theorem stuff_loop (s : List Int) {p : Nat} (hp : 0 < p) (hp8 : p ≤ 1000) (hl : s.length ≤ 10000) : ∀ (d i : Nat), i + d = s.length → Evt (fun k => impl_stuff.l0 k p (stI s p i) s s.length i) (stfL s p)
  | 0, i, hd => by
    have : i = s.length := by omega
    subst this
    refine Evt.step (h := fun _ => some (stfL s p)) (fun k => ?_) (Evt.ret _)
    simp only [impl_stuff.l0]
    rw [if_neg (by omega), stI_all s hp]
  | d + 1, i, hd => by
    have ih := stuff_loop s hp hp8 hl d (i + 1) (by omega)
    have hm : i * p + p ≤ s.length * p := by
      have : (i + 1) * p ≤ s.length * p := Nat.mul_le_mul_right p (by omega)
      rw [Nat.add_mul] at this; omega
    have hm2 : s.length * p ≤ 10000000 := by
      have : s.length * p ≤ 10000 * 1000 := Nat.mul_le_mul hl hp8
      omega
    have e1 : wrap64 ((i : Int) * p) = ((i * p : Nat) : Int) := by
      rw [← Int.natCast_mul]
      generalize i * p = q at *
      generalize s.length * p = z at *
      exact w64 (by omega) (by omega)
    have e2 : wrap64 ((i : Int) + 1) = ((i + 1 : Nat) : Int) := by clear e1; rw [w64 (by omega) (by omega)]; rfl
    have hlen : (stI s p i).length = s.length * p := by simp [stI]
    refine Evt.step (fun k => ?_) ih
    simp only [impl_stuff.l0]
    rw [e1, e2, Int.toNat_natCast, stI_set s hp (by omega)]
    clear e1 e2
    generalize s.length * p = z at *
    rw [if_pos (by omega), if_pos (by omega), if_pos (by omega), if_pos (by omega), if_pos (by omega)]
theorem len_mul {n p : Nat} (hp : p ≤ 1000) (hl : n ≤ 10000) : n * p ≤ 10000000 := by
  have : n * p ≤ 10000 * 1000 := Nat.mul_le_mul hl hp
  omega
theorem stuff_val (s : List Int) {p : Nat} (hp : 0 < p) (hp8 : p ≤ 1000) (hl : s.length ≤ 10000) : Evt (fun k => impl_stuff.f k s p) (stfL s p) := by
  have hm := len_mul hp8 hl
  have e1 : wrap64 ((s.length : Int) * p) = ((s.length * p : Nat) : Int) := by
    rw [← Int.natCast_mul]
    generalize s.length * p = z at *
    exact w64 (by omega) (by omega)
  unfold impl_stuff.f
  rw [e1, Int.toNat_natCast]
  refine Evt.pos (by omega) (Evt.pos (by omega) ?_)
  rw [← stI_zero]
  exact stuff_loop s hp hp8 hl s.length 0 (by omega)
theorem cbStuff_in (s : List Int) {p : Nat} (hp : 0 < p) (hp8 : p ≤ 1000) (hl : s.length ≤ 10000) (i : Nat) (hi : i < s.length) (r : List Int)
    (ho : Evt (fun k => spec_cbStuff.l0 k p ((List.range ((i + 1) * p)).map (stF s p)) s s.length (i + 1 : Nat)) r) :
    ∀ (d j : Nat), j + d = p → 0 < j → Evt (fun k => spec_cbStuff.l1 k p ((List.range (i * p + j)).map (stF s p)) j s s.length i) r
  | 0, j, hd, hj => by
    have : j = p := by omega
    subst this
    have e2 : wrap64 ((i : Int) + 1) = ((i + 1 : Nat) : Int) := by rw [w64 (by omega) (by omega)]; rfl
    have e3 : i * j + j = (i + 1) * j := by rw [Nat.add_mul]; omega
    refine Evt.step (fun k => ?_) ho
    simp only [spec_cbStuff.l1]
    rw [if_neg (by omega), e2, e3]
  | d + 1, j, hd, hj => by
    have ih := cbStuff_in s hp hp8 hl i hi r ho d (j + 1) (by omega) (by omega)
    have hm := len_mul (n := i) hp8 (by omega)
    have e2 : wrap64 ((j : Int) + 1) = ((j + 1 : Nat) : Int) := by clear hm; rw [w64 (by omega) (by omega)]; rfl
    have ev : stF s p (i * p + j) = 0 := by
      have : (i * p + j) % p = j := by rw [Nat.add_comm, Nat.add_mul_mod_self_right, Nat.mod_eq_of_lt (by omega)]
      show (if (i * p + j) % p = 0 then _ else _) = _
      rw [this, if_neg (by omega)]
    have es := range_snoc (stF s p) (i * p + j)
    rw [ev] at es
    refine Evt.step (fun k => ?_) ih
    simp only [spec_cbStuff.l1]
    rw [if_pos (by omega), if_pos (by simp; omega), es, e2]; rfl
theorem cbStuff_loop (s : List Int) {p : Nat} (hp : 0 < p) (hp8 : p ≤ 1000) (hl : s.length ≤ 10000) : ∀ (d i : Nat), i + d = s.length →
    Evt (fun k => spec_cbStuff.l0 k p ((List.range (i * p)).map (stF s p)) s s.length i) (stfL s p)
  | 0, i, hd => by
    have : i = s.length := by omega
    subst this
    refine Evt.step (h := fun _ => some (stfL s p)) (fun k => ?_) (Evt.ret _)
    simp only [spec_cbStuff.l0]
    rw [if_neg (by omega)]; rfl
  | d + 1, i, hd => by
    have ih := cbStuff_loop s hp hp8 hl d (i + 1) (by omega)
    have hm := len_mul (n := i) hp8 (by omega)
    have ev : stF s p (i * p) = rd s i := by
      show (if (i * p) % p = 0 then _ else _) = _
      rw [if_pos (Nat.mul_mod_left i p), Nat.mul_div_cancel _ hp]
    have es := range_snoc (stF s p) (i * p)
    rw [ev] at es
    refine Evt.step (fun k => ?_) (cbStuff_in s hp hp8 hl i (by omega) _ ih (p - 1) 1 (by omega) (by omega))
    simp only [spec_cbStuff.l0]
    rw [if_pos (by omega), if_pos (by omega), if_pos (by omega), if_pos (by simp; omega), es]; rfl
theorem cbStuff_val (s : List Int) {p : Nat} (hp : 0 < p) (hp8 : p ≤ 1000) (hl : s.length ≤ 10000) : Evt (fun k => spec_cbStuff.f k s p) (stfL s p) := by
  have := cbStuff_loop s hp hp8 hl s.length 0 (by omega)
  rw [Nat.zero_mul] at this
  exact this
theorem stfL_all {s : List Int} {p : Nat} (hp : 0 < p) (hs : ∀ x ∈ s, -100000 ≤ x ∧ x ≤ 100000) : ∀ x ∈ stfL s p, -100000 ≤ x ∧ x ≤ 100000 := fun x hx => by
  obtain ⟨j, hj, rfl⟩ := List.mem_map.mp hx
  have hj' := List.mem_range.mp hj
  unfold stF
  split
  · have : j / p < s.length := (Nat.div_lt_iff_lt_mul hp).mpr hj'
    exact hs _ (rd_mem (Int.natCast_nonneg _) (Int.ofNat_lt.mpr this))
  · omega
/-- a sample between zeros, at any place -/
theorem S_stf {s : List Int} {p : Nat} (hp : 0 < p) (i : Int) : S (stfL s p) i = if i % p = 0 then S s (i / p) else 0 := by
  have hpz : (0 : Int) < p := by omega
  by_cases c : 0 ≤ i ∧ i < ((s.length * p : Nat) : Int)
  · rw [S_in c.1 (by rw [stfL_len]; exact c.2)]
    obtain ⟨j, rfl⟩ : ∃ j : Nat, i = j := ⟨i.toNat, by omega⟩
    have hj : j < s.length * p := by omega
    have hjp : j / p < s.length := (Nat.div_lt_iff_lt_mul hp).mpr hj
    unfold stfL
    rw [rd_map _ hj]
    unfold stF
    have e1 : (j : Int) % p = ((j % p : Nat) : Int) := (Int.natCast_emod j p).symm
    have e2 : (j : Int) / p = ((j / p : Nat) : Int) := (Int.natCast_ediv j p).symm
    rw [e1, e2]
    by_cases d : j % p = 0
    · rw [if_pos d, if_pos (by omega), S_in (Int.natCast_nonneg _) (Int.ofNat_lt.mpr hjp)]
    · rw [if_neg d, if_neg (by omega)]
  · rw [S_out (by rw [stfL_len]; exact c)]
    split
    · rw [S_out]
      rintro ⟨h1, h2⟩
      have h3 := Int.emod_add_mul_ediv i p
      have h4 : (p : Int) * (i / p) < p * s.length := Int.mul_lt_mul_of_pos_left h2 hpz
      have h5 : 0 ≤ (p : Int) * (i / p) := Int.mul_nonneg (by omega) h1
      have h6 : ((s.length * p : Nat) : Int) = p * s.length := by rw [Int.natCast_mul, Int.mul_comm]
      rw [h6] at c
      generalize (p : Int) * (i / p) = q at *
      generalize (p : Int) * s.length = z at *
      omega
    · rfl
def ratB (p q : Int) : Bool := inB p 1 8 && inB q 1 8
theorem isRatio_val (p q : Int) : impl_isRatio.f p q = some (ratB p q) := by
  unfold impl_isRatio.f ratB; rw [in_val]; simp only [Option.bind_some]; rw [in_val]
  cases inB p 1 8 <;> simp
theorem rsRatio_val (p q : Int) : spec_rsRatio.f p q = some (ratB p q) := by
  unfold spec_rsRatio.f ratB; rw [l1In_val]; simp only [Option.bind_some]; rw [l1In_val]
  cases inB p 1 8 <;> simp
theorem isRate_val (p : Int) : impl_isRate.f p = some (inB p 1 8) := by unfold impl_isRate.f; rw [in_val]; rfl
theorem rat_nat {p q : Int} (h : ratB p q = true) : ∃ a b : Nat, p = a ∧ q = b ∧ 1 ≤ a ∧ a ≤ 8 ∧ 1 ≤ b ∧ b ≤ 8 := by
  unfold ratB at h; rw [Bool.and_eq_true, inB_iff, inB_iff] at h
  exact ⟨p.toNat, q.toNat, by omega, by omega, by omega, by omega, by omega, by omega⟩
/-- may the answer be made -/
def upB (h s : List Int) (p q : Int) : Bool := wei h && ratB p q && (sig s && decide ((s.length : Int) * p ≤ 64))
structure UpS (h s : List Int) (p q : Nat) : Prop where
  h1 : 1 ≤ h.length
  h9 : h.length ≤ 9
  hw : ∀ x ∈ h, -1000 ≤ x ∧ x ≤ 1000
  len : s.length ≤ 64
  hs : ∀ x ∈ s, -100000 ≤ x ∧ x ≤ 100000
  p1 : 1 ≤ p
  p8 : p ≤ 8
  q1 : 1 ≤ q
  q8 : q ≤ 8
  room : s.length * p ≤ 64
theorem up_iff {h s : List Int} {p q : Int} (hh : upB h s p q = true) : ∃ a b : Nat, p = a ∧ q = b ∧ UpS h s a b := by
  unfold upB at hh
  simp only [Bool.and_eq_true, decide_eq_true_eq] at hh
  obtain ⟨⟨h1, h2⟩, h3, h4⟩ := hh
  obtain ⟨a, b, rfl, rfl, a1, a8, b1, b8⟩ := rat_nat h2
  have g1 := wei_iff.mp h1
  have g2 := sig_iff.mp h3
  exact ⟨a, b, rfl, rfl, g1.1.1, g1.1.2, g1.2, g2.1, g2.2, a1, a8, b1, b8, by rw [← Int.natCast_mul] at h4; omega⟩
/-- the number at the place n of the answer to the signal with zeros -/
def upG (h s : List Int) (p : Nat) (n : Int) : Int := cv h (stfL s p) n h.length
def upL (h s : List Int) (p q : Nat) : List Int := (List.range (dcnt (s.length * p) 0 q)).map (fun i : Nat => upG h s p ((i * q : Nat) : Int))
theorem drop_up {h s : List Int} {p q : Nat} (U : UpS h s p q) : dropL ((List.range (s.length * p)).map (fun j : Nat => upG h s p j)) q 0 = upL h s p q := by
  have hl : ((List.range (s.length * p)).map (fun j : Nat => upG h s p j)).length = s.length * p := by simp
  unfold dropL upL
  rw [hl]
  apply List.map_congr_left
  intro i hi
  have := (dcnt_lt (m := s.length * p) (r := 0) (j := i) U.q1).mp (List.mem_range.mp hi)
  rw [Nat.zero_add]
  exact rd_map (fun j : Nat => upG h s p j) (by omega)
theorem upL_len (h s : List Int) (p q : Nat) : (upL h s p q).length = dcnt (s.length * p) 0 q := by simp [upL]
theorem impl_up {h s : List Int} {p q : Nat} (U : UpS h s p q) {α : Type} {r : α} (K : Nat → List Int → Option α) (hK : Evt (fun k => K k (upL h s p q)) r) (own : List Int) (ho : own = stfL s p) :
    Evt (fun k => (impl_answer.f k h own).bind fun t => (if 0 ≤ (own.length : Int) then (if (own.length : Int) ≤ (t.length : Int) then ((impl_drop.f k (t.take ((own.length : Int) : Int).toNat) q 0).bind (K k)) else none) else none)) r := by
  subst ho
  have hall := stfL_all (p := p) (by have := U.p1; omega) U.hs
  have hlen := stfL_len s p
  have hroom := U.room
  have e := ans_take h (stfL s p) U.h1
  have hle : (stfL s p).length ≤ (if (stfL s p).length = 0 then [] else ans h (stfL s p)).length := by
    have := congrArg List.length e
    simp only [List.length_take, List.length_map, List.length_range] at this
    omega
  refine Evt.bind (answer_val h (stfL s p) U.hw hall U.h1 (by have := U.h9; omega) (by omega)) (Evt.pos (by omega) (Evt.pos (by omega) ?_))
  rw [Int.toNat_natCast, e, hlen]
  have hd := drop_up U
  refine Evt.bind (a := upL h s p q) ?_ hK
  rw [← hd]
  exact drop_val (p := q) (r := 0) _ (by have := U.q1; omega) (by have := U.q8; omega) (by decide) (by simp; omega)
theorem spec_up {h s : List Int} {p q : Nat} (U : UpS h s p q) {α : Type} {r : α} (K : Nat → List Int → Option α) (hK : Evt (fun k => K k (upL h s p q)) r) (own : List Int) (ho : own = stfL s p) :
    Evt (fun k => (spec_weAnswer.f k h own).bind fun t => (if 0 ≤ (own.length : Int) then (if (own.length : Int) ≤ (t.length : Int) then ((spec_cbDrop.f k (t.take ((own.length : Int) : Int).toNat) q 0).bind (K k)) else none) else none)) r := by
  subst ho
  have hall := stfL_all (p := p) (by have := U.p1; omega) U.hs
  have hlen := stfL_len s p
  have hroom := U.room
  have e := ans_take h (stfL s p) U.h1
  have hle : (stfL s p).length ≤ (if (stfL s p).length = 0 then [] else ans h (stfL s p)).length := by
    have := congrArg List.length e
    simp only [List.length_take, List.length_map, List.length_range] at this
    omega
  refine Evt.bind (weAnswer_val h (stfL s p) U.hw hall U.h1 (by have := U.h9; omega) (by omega)) (Evt.pos (by omega) (Evt.pos (by omega) ?_))
  rw [Int.toNat_natCast, e, hlen]
  have hd := drop_up U
  refine Evt.bind (a := upL h s p q) ?_ hK
  rw [← hd]
  exact cbDrop_val (p := q) (r := 0) _ (by have := U.q1; omega) (by have := U.q8; omega) (by decide) (by simp; omega)
def upR (h s : List Int) (p q : Int) : List Int × Bool := if upB h s p q = true then told (upL h s p.toNat q.toNat) else ([], false)
theorem wdIf_val (l : List Int) : Evt (fun k => spec_wdIf.f k l) (told l) := by
  unfold spec_wdIf.f told
  refine Evt.bind (wdSignal_val l) ?_
  by_cases h : sig l = true
  · exact Evt.pos h ((Evt.ret _).eq (by rw [if_pos h]))
  · exact Evt.neg h ((Evt.ret _).eq (by rw [if_neg h]))
theorem stf_sig {s : List Int} {p : Nat} (hp : 1 ≤ p) (h : sig s = true) : sig (stfL s p) = decide (s.length * p ≤ 64) := by
  have g := sig_iff.mp h
  rw [Bool.eq_iff_iff, sig_iff, stfL_len, decide_eq_true_eq]
  exact ⟨fun a => a.1, fun a => ⟨a, stfL_all (by omega) g.2⟩⟩
theorem StuffZeros_val (s : List Int) {p : Nat} (h1 : 1 ≤ p) (h8 : p ≤ 8) : Evt (fun k => impl_StuffZeros.f k s p) (if sig s = true then told (stfL s p) else ([], false)) := by
  unfold impl_StuffZeros.f
  refine Evt.bindp (isSignal_val s) ?_
  by_cases h : sig s = true
  · rw [if_pos h]
    have hl := (sig_iff.mp h).1
    refine Evt.pos h (Evt.bindp (isRate_val p) ?_)
    rw [inB_iff.mpr ⟨by omega, by omega⟩]
    refine Evt.step (fun k => by simp only [impl_StuffZeros.j0]; rw [if_neg (by simp)]) ?_
    exact Evt.bind (stuff_val s (by omega) (by omega) (by omega)) (Evt.bindp (told_val _) (Evt.ret _))
  · rw [if_neg h]
    exact Evt.neg h (Evt.step (fun k => by simp only [impl_StuffZeros.j0]; rw [if_pos trivial]) (Evt.ret _))
theorem UpFilterDown_val (h s : List Int) (p q : Int) : Evt (fun k => impl_UpFilterDown.f k h s p q) (upR h s p q) := by
  have no : Evt (fun k => impl_UpFilterDown.j0 k h s p q true) ([], false) := Evt.step (fun k => by simp only [impl_UpFilterDown.j0]; rw [if_pos trivial]) (Evt.ret _)
  unfold impl_UpFilterDown.f upR
  refine Evt.bindp (isWeights_val h) ?_
  by_cases h1 : wei h = true
  · refine Evt.pos h1 (Evt.bindp (isRatio_val p q) ?_)
    by_cases h2 : ratB p q = true
    · rw [h2]
      obtain ⟨a, b, rfl, rfl, a1, a8, b1, b8⟩ := rat_nat h2
      refine Evt.step (fun k => by simp only [impl_UpFilterDown.j0]; rw [if_neg (by simp)]) ?_
      refine Evt.bind (StuffZeros_val s a1 a8) ?_
      by_cases h3 : sig s = true
      · rw [if_pos h3]
        by_cases h4 : s.length * a ≤ 64
        · have hu : upB h s a b = true := by unfold upB; rw [h1, h2, h3, ← Int.natCast_mul, decide_eq_true (by omega)]; rfl
          obtain ⟨a', b', e1, e2, U⟩ := up_iff hu
          have e1' : a = a' := by omega
          have e2' : b = b' := by omega
          subst e1' e2'
          have et : told (stfL s a) = (stfL s a, true) := by unfold told; rw [if_pos (by rw [stf_sig a1 h3, decide_eq_true h4])]
          rw [et, if_pos hu, Int.toNat_natCast, Int.toNat_natCast]
          refine Evt.pos rfl ?_
          exact impl_up U (fun k t293 => (impl_told.f t293).bind fun bt296 => (some (bt296.1, bt296.2))) (Evt.bindp (told_val _) (Evt.ret _)) _ rfl
        · have hu : ¬ upB h s a b = true := by
            intro hu
            obtain ⟨a', b', e1, e2, U⟩ := up_iff hu
            have e1' : a = a' := by omega
            subst e1'
            exact h4 U.room
          have et : told (stfL s a) = ([], false) := by unfold told; rw [if_neg (by rw [stf_sig a1 h3, decide_eq_false h4]; simp)]
          rw [et, if_neg hu]
          exact Evt.neg (by simp) (Evt.ret _)
      · have hu : ¬ upB h s a b = true := by unfold upB; rw [Bool.eq_false_iff.mpr h3]; simp
        rw [if_neg h3, if_neg hu]
        exact Evt.neg (by simp) (Evt.ret _)
    · have hu : ¬ upB h s p q = true := by unfold upB; rw [Bool.eq_false_iff.mpr h2]; simp
      rw [Bool.eq_false_iff.mpr h2, if_neg hu]; exact no
  · have hu : ¬ upB h s p q = true := by unfold upB; rw [Bool.eq_false_iff.mpr h1]; simp
    rw [if_neg hu]; exact Evt.neg h1 no
theorem rsGood_val (s : List Int) (p q : Int) : Evt (fun k => spec_rsGood.f k s p q) (sig s && ratB p q) := by
  unfold spec_rsGood.f
  refine Evt.bind (wdSignal_val s) ?_
  by_cases h : sig s = true
  · rw [h]; exact Evt.pos rfl (Evt.bindp (rsRatio_val p q) ((Evt.ret _).eq (by simp)))
  · rw [Bool.eq_false_iff.mpr h]; exact Evt.neg (by simp) ((Evt.ret _).eq (by simp))
theorem rsAsked_val (h s : List Int) (p q : Int) : Evt (fun k => spec_rsAsked.f k h s p q) (upB h s p q) := by
  unfold spec_rsAsked.f upB
  refine Evt.bind (weGood_val h) ?_
  by_cases h1 : wei h = true
  · refine Evt.pos h1 (Evt.bind (rsGood_val s p q) ?_)
    by_cases h2 : sig s = true
    · by_cases h3 : ratB p q = true
      · obtain ⟨a, b, rfl, rfl, a1, a8, b1, b8⟩ := rat_nat h3
        have hl := (sig_iff.mp h2).1
        have hm := len_mul (n := s.length) (p := a) (by omega) (by omega)
        have ew : wrap64 ((s.length : Int) * a) = (s.length : Int) * a := by
          rw [← Int.natCast_mul]
          generalize s.length * a = z at *
          exact w64 (by omega) (by omega)
        refine Evt.pos (by rw [h2, h3]; rfl) ((Evt.ret _).eq ?_)
        rw [ew, h1, h2, h3]; simp
      · refine Evt.neg (by rw [Bool.eq_false_iff.mpr h3]; simp) ((Evt.ret _).eq ?_)
        rw [Bool.eq_false_iff.mpr h3]; simp
    · refine Evt.neg (by rw [Bool.eq_false_iff.mpr h2]; simp) ((Evt.ret _).eq ?_)
      rw [Bool.eq_false_iff.mpr h2]; simp
  · refine Evt.neg h1 ((Evt.ret _).eq ?_)
    rw [Bool.eq_false_iff.mpr h1]; simp
theorem rsDirect_val {h s : List Int} {p q : Nat} (U : UpS h s p q) : Evt (fun k => spec_rsDirect.f k h s p q) (upL h s p q) := by
  unfold spec_rsDirect.f
  refine Evt.bind (cbStuff_val s (by have := U.p1; omega) (by have := U.p8; omega) (by have := U.len; omega)) ?_
  exact spec_up U (fun k t340 => some t340) (Evt.ret _) _ rfl
theorem specUpFilterDown_val (h s : List Int) (p q : Int) : Evt (fun k => spec_UpFilterDown.f k h s p q) (upR h s p q) := by
  unfold spec_UpFilterDown.f upR
  refine Evt.bind (rsAsked_val h s p q) ?_
  by_cases hu : upB h s p q = true
  · rw [if_pos hu]
    obtain ⟨a, b, rfl, rfl, U⟩ := up_iff hu
    rw [Int.toNat_natCast, Int.toNat_natCast]
    exact Evt.pos hu (Evt.bind (rsDirect_val U) (Evt.bind (wdIf_val _) (Evt.ret _)))
  · rw [if_neg hu]; exact Evt.neg hu (Evt.ret _)
theorem UpFilter_val (h s : List Int) (p : Int) : Evt (fun k => impl_UpFilter.f k h s p) (upR h s p 1) := by
  unfold impl_UpFilter.f; exact Evt.bind (UpFilterDown_val h s p 1) (Evt.ret _)
theorem DownFilter_val (h s : List Int) (q : Int) : Evt (fun k => impl_DownFilter.f k h s q) (upR h s 1 q) := by
  unfold impl_DownFilter.f; exact Evt.bind (UpFilterDown_val h s 1 q) (Evt.ret _)
theorem specUpFilter_val (h s : List Int) (p : Int) : Evt (fun k => spec_UpFilter.f k h s p) (upR h s p 1) := by
  unfold spec_UpFilter.f upR
  refine Evt.bind (rsAsked_val h s p 1) ?_
  by_cases hu : upB h s p 1 = true
  · rw [if_pos hu]
    obtain ⟨a, b, e1, e2, U⟩ := up_iff hu
    have := rsDirect_val U
    rw [← e1, ← e2] at this
    refine Evt.pos hu (Evt.bind (this.eq ?_) (Evt.bind (wdIf_val _) (Evt.ret _)))
    rw [e1, e2, Int.toNat_natCast, Int.toNat_natCast]
  · rw [if_neg hu]; exact Evt.neg hu (Evt.ret _)
theorem specDownFilter_val (h s : List Int) (p : Int) : Evt (fun k => spec_DownFilter.f k h s p) (upR h s 1 p) := by
  unfold spec_DownFilter.f upR
  refine Evt.bind (rsAsked_val h s 1 p) ?_
  by_cases hu : upB h s 1 p = true
  · rw [if_pos hu]
    obtain ⟨a, b, e1, e2, U⟩ := up_iff hu
    have := rsDirect_val U
    rw [← e1, ← e2] at this
    refine Evt.pos hu (Evt.bind (this.eq ?_) (Evt.bind (wdIf_val _) (Evt.ret _)))
    rw [e1, e2, Int.toNat_natCast, Int.toNat_natCast]
  · rw [if_neg hu]; exact Evt.neg hu (Evt.ret _)
def phL (h : List Int) (p : Nat) : List (List Int) := (List.range p).map (fun r : Nat => dropL h p r)
theorem phL_len (h : List Int) (p : Nat) : (phL h p).length = p := by simp [phL]
theorem rdL_map {n : Nat} (f : Nat → List Int) {j : Nat} (h : j < n) : rd_L2 ((List.range n).map f) j = f j := by
  unfold rd_L2; simp [List.getD_eq_getElem?_getD, h]
theorem phL_rd (h : List Int) {p r : Nat} (hr : r < p) : rd_L2 (phL h p) r = dropL h p r := rdL_map _ hr
theorem rangeL_snoc {α : Type} (f : Nat → α) (n : Nat) : (List.range n).map f ++ [f n] = (List.range (n + 1)).map f := by rw [List.range_succ, List.map_append]; rfl
theorem phasesOf_loop (h : List Int) {p : Nat} (hp : 1 ≤ p) (hp8 : p ≤ 8) (hl : h.length ≤ 1000) : ∀ (d r : Nat), r + d = p → Evt (fun k => impl_phasesOf.l0 k h p ((List.range r).map (fun r : Nat => dropL h p r)) p r) (phL h p)
  | 0, r, hd => by
    have : r = p := by omega
    subst this
    refine Evt.step (h := fun _ => some (phL h r)) (fun k => ?_) (Evt.ret _)
    simp only [impl_phasesOf.l0]
    rw [if_neg (by omega)]; rfl
  | d + 1, r, hd => by
    have ih := phasesOf_loop h hp hp8 hl d (r + 1) (by omega)
    have e : wrap64 ((r : Int) + 1) = ((r + 1 : Nat) : Int) := by rw [w64 (by omega) (by omega)]; rfl
    refine Evt.step (fun k => by simp only [impl_phasesOf.l0]; rw [if_pos (by omega)]) ?_
    refine Evt.bind (drop_val h (p := p) (r := r) (by omega) (by omega) (by omega) (by omega)) (Evt.pos (by simp; omega) ?_)
    rw [e, rangeL_snoc (fun r : Nat => dropL h p r) r]
    exact ih
theorem phasesOf_val (h : List Int) {p : Nat} (hp : 1 ≤ p) (hp8 : p ≤ 8) (hl : h.length ≤ 1000) : Evt (fun k => impl_phasesOf.f k h p) (phL h p) := phasesOf_loop h hp hp8 hl p 0 (by omega)
/-- with the weights before the place i -/
def phI (h : List Int) (p i : Nat) : List (List Int) := (List.range p).map (fun r : Nat => (List.range (dcnt i r p)).map (fun j : Nat => rd h ((r + j * p : Nat) : Int)))
theorem dcnt_succ {i r p : Nat} (hp : 0 < p) (hr : r < p) : dcnt (i + 1) r p = if i % p = r then dcnt i r p + 1 else dcnt i r p := by
  have h1 : ∀ j, j < dcnt (i + 1) r p ↔ r + j * p < i + 1 := fun j => dcnt_lt hp
  have h2 : ∀ j, j < dcnt i r p ↔ r + j * p < i := fun j => dcnt_lt hp
  have hdm := Nat.div_add_mod i p
  split
  · rename_i c
    have e1 : dcnt i r p = i / p := by
      have a1 : ¬ (i / p < dcnt i r p) := fun h => by
        have := (h2 _).mp h
        rw [Nat.mul_comm] at this; omega
      have a2 : ¬ (dcnt i r p < i / p) := fun h => by
        have : (dcnt i r p + 1) * p ≤ i / p * p := Nat.mul_le_mul_right p h
        have h3 : ¬ (r + dcnt i r p * p < i) := fun h' => by have := (h2 _).mpr h'; omega
        rw [Nat.add_mul, Nat.mul_comm (i / p)] at this
        omega
      omega
    have e2 : dcnt (i + 1) r p = i / p + 1 := by
      have a1 : ¬ (i / p + 1 < dcnt (i + 1) r p) := fun h => by
        have := (h1 _).mp h
        rw [Nat.add_mul, Nat.mul_comm] at this; omega
      have a2 : i / p < dcnt (i + 1) r p := (h1 _).mpr (by rw [Nat.mul_comm]; omega)
      omega
    omega
  · rename_i c
    have hle : ∀ j, r + j * p < i + 1 ↔ r + j * p < i := fun j => by
      constructor
      · intro h
        rcases Nat.lt_or_ge (r + j * p) i with h' | h'
        · exact h'
        · exfalso
          have e : i = r + j * p := by omega
          apply c
          rw [e, Nat.add_mul_mod_self_right, Nat.mod_eq_of_lt hr]
      · omega
    have a1 : ¬ (dcnt i r p < dcnt (i + 1) r p) := fun h => by
      have := (h2 _).mpr ((hle _).mp ((h1 _).mp h)); omega
    have a2 : ¬ (dcnt (i + 1) r p < dcnt i r p) := fun h => by
      have := (h1 _).mpr ((hle _).mpr ((h2 _).mp h)); omega
    omega
theorem phI_set (h : List Int) {p i : Nat} (hp : 0 < p) : (phI h p i).set (i % p) (rd_L2 (phI h p i) ((i % p : Nat) : Int) ++ [rd h i]) = phI h p (i + 1) := by
  have hm := Nat.mod_lt i hp
  have hrd : rd_L2 (phI h p i) ((i % p : Nat) : Int) = (List.range (dcnt i (i % p) p)).map (fun j : Nat => rd h ((i % p + j * p : Nat) : Int)) := rdL_map _ hm
  have hd : dcnt i (i % p) p = i / p := by
    have hdm := Nat.div_add_mod i p
    have h2 : ∀ j, j < dcnt i (i % p) p ↔ i % p + j * p < i := fun j => dcnt_lt hp
    have a1 : ¬ (i / p < dcnt i (i % p) p) := fun h => by
      have := (h2 _).mp h
      rw [Nat.mul_comm] at this; omega
    have a2 : ¬ (dcnt i (i % p) p < i / p) := fun h => by
      have : (dcnt i (i % p) p + 1) * p ≤ i / p * p := Nat.mul_le_mul_right p h
      have h3 : ¬ (i % p + dcnt i (i % p) p * p < i) := fun h' => by have := (h2 _).mpr h'; omega
      rw [Nat.add_mul, Nat.mul_comm (i / p)] at this
      omega
    omega
  apply List.ext_getElem
  · simp [phI]
  · intro r h1 h2
    have hr : r < p := by simpa [phI] using h2
    rw [List.getElem_set]
    by_cases c : i % p = r
    · rw [if_pos c]
      subst c
      rw [hrd]
      simp only [phI, List.getElem_map, List.getElem_range]
      rw [dcnt_succ hp hm, if_pos rfl, ← rangeL_snoc, hd]
      congr 2
      have hdm := Nat.div_add_mod i p
      rw [Nat.mul_comm (i / p)]
      congr 1
      omega
    · rw [if_neg c]
      simp only [phI, List.getElem_map, List.getElem_range]
      rw [dcnt_succ hp hr, if_neg c]
theorem phI_zero (h : List Int) (p : Nat) : phI h p 0 = List.replicate p [] := by
  apply List.ext_getElem
  · simp [phI]
  · intro r h1 h2
    simp only [phI, List.getElem_map, List.getElem_range, List.getElem_replicate]
    have : dcnt 0 r p = 0 := by
      rcases Nat.eq_zero_or_pos (dcnt 0 r p) with h | h
      · exact h
      · have hp : 0 < p := by have : r < p := by simpa [phI] using h1
                              omega
        have := (dcnt_lt hp).mp h
        omega
    rw [this]; rfl
theorem rsPhases_loop (h : List Int) {p : Nat} (hp : 1 ≤ p) (hp8 : p ≤ 8) (hl : h.length ≤ 1000) : ∀ (d i : Nat), i + d = h.length → Evt (fun k => spec_rsPhases.l0 k p (phI h p i) h h.length i) (phL h p)
  | 0, i, hd => by
    have : i = h.length := by omega
    subst this
    refine Evt.step (h := fun _ => some (phL h p)) (fun k => ?_) (Evt.ret _)
    simp only [spec_rsPhases.l0]
    rw [if_neg (by omega)]; rfl
  | d + 1, i, hd => by
    have ih := rsPhases_loop h hp hp8 hl d (i + 1) (by omega)
    have hm := Nat.mod_lt i (show 0 < p by omega)
    have em : Int.tmod (i : Int) p = ((i % p : Nat) : Int) := by rw [tmod_nn (by omega), Int.natCast_emod]
    have e : wrap64 ((i : Int) + 1) = ((i + 1 : Nat) : Int) := by clear em; rw [w64 (by omega) (by omega)]; rfl
    have hlen : (phI h p i).length = p := by simp [phI]
    have hrd : (rd_L2 (phI h p i) ((i % p : Nat) : Int)).length ≤ 1000 := by
      have : rd_L2 (phI h p i) ((i % p : Nat) : Int) = (List.range (dcnt i (i % p) p)).map (fun j : Nat => rd h ((i % p + j * p : Nat) : Int)) := rdL_map _ hm
      rw [this]; have := dcnt_le (m := i) (r := i % p) (show 0 < p by omega); simp; omega
    refine Evt.step (fun k => ?_) ih
    simp only [spec_rsPhases.l0]
    rw [em, e, Int.toNat_natCast, phI_set h (by omega)]
    clear em e
    rw [if_pos (by omega), if_pos (by omega), if_pos (by omega), if_neg (by omega), if_pos (by omega), if_pos (by omega), if_pos (by omega)]
theorem rsPhases_val (h : List Int) {p : Nat} (hp : 1 ≤ p) (hp8 : p ≤ 8) (hl : h.length ≤ 1000) : Evt (fun k => spec_rsPhases.f k h p) (phL h p) := by
  unfold spec_rsPhases.f
  refine Evt.pos (by omega) (Evt.pos (by omega) ?_)
  rw [Int.toNat_natCast, ← phI_zero h p]
  exact rsPhases_loop h hp hp8 hl h.length 0 (by omega)
/-- the sum of the phase of the place n -/
def bpT (h s : List Int) (p n : Nat) (j : Nat) : Int := rd (dropL h p (n % p)) j * S s ((n / p : Nat) - (j : Int))
def bpG (h s : List Int) (p n : Nat) : Int := sm (bpT h s p n) (dcnt h.length (n % p) p)
theorem sm_stride {F : Nat → Int} {p r : Nat} (hp : 0 < p) (hr : r < p) (hF : ∀ k, k % p ≠ r → F k = 0) : ∀ m, sm F m = sm (fun j => F (r + j * p)) (dcnt m r p)
  | 0 => by
    have : dcnt 0 r p = 0 := by
      rcases Nat.eq_zero_or_pos (dcnt 0 r p) with h | h
      · exact h
      · have := (dcnt_lt hp).mp h; omega
    rw [this]; rfl
  | m + 1 => by
    rw [dcnt_succ hp hr]
    show sm F m + F m = _
    rw [sm_stride hp hr hF m]
    split
    · rename_i c
      have e : r + dcnt m r p * p = m := by
        have h2 : ∀ j, j < dcnt m r p ↔ r + j * p < m := fun j => dcnt_lt hp
        have hdm := Nat.div_add_mod m p
        have a1 : ¬ (m / p < dcnt m r p) := fun h => by
          have := (h2 _).mp h
          rw [Nat.mul_comm] at this; omega
        have a2 : ¬ (dcnt m r p < m / p) := fun h => by
          have : (dcnt m r p + 1) * p ≤ m / p * p := Nat.mul_le_mul_right p h
          have h3 : ¬ (r + dcnt m r p * p < m) := fun h' => by have := (h2 _).mpr h'; omega
          rw [Nat.add_mul, Nat.mul_comm (m / p)] at this
          omega
        have : dcnt m r p = m / p := by omega
        rw [this, Nat.mul_comm]; omega
      simp only [sm]
      rw [e]
    · rename_i c
      rw [hF m c]; omega
theorem bp_up (h s : List Int) {p : Nat} (hp : 0 < p) (n : Nat) : bpG h s p n = upG h s p n := by
  unfold bpG upG cv
  have hm := Nat.mod_lt n hp
  rw [sm_stride (F := fun k : Nat => rd h k * S (stfL s p) ((n : Int) - k)) hp hm (fun k hk => by
    have : S (stfL s p) ((n : Int) - k) = 0 := by
      rw [S_stf hp, if_neg]
      intro h0
      apply hk
      have h1 : (p : Int) ∣ ((n : Int) - k) := Int.dvd_of_emod_eq_zero h0
      have h2 : (n : Int) % p = (k : Int) % p := Int.emod_eq_emod_iff_emod_sub_eq_zero.mpr h0
      rw [← Int.natCast_emod, ← Int.natCast_emod] at h2
      omega
    show rd h k * S (stfL s p) ((n : Int) - k) = 0
    rw [this]; simp)]
  apply sm_congr
  intro j hj
  show rd (dropL h p (n % p)) j * S s ((n / p : Nat) - (j : Int)) = rd h ((n % p + j * p : Nat) : Int) * S (stfL s p) ((n : Int) - ((n % p + j * p : Nat) : Int))
  rw [dropL_rd hj, S_stf hp]
  have hdm := Nat.div_add_mod n p
  have e : (n : Int) - ((n % p + j * p : Nat) : Int) = ((n / p : Nat) - (j : Int)) * p := by
    rw [Int.sub_mul, ← Int.natCast_mul, ← Int.natCast_mul, Nat.mul_comm (n / p)]
    omega
  rw [e, if_pos (Int.mul_emod_left _ _), Int.mul_ediv_cancel _ (by omega)]
theorem at_val (l : List Int) (i : Int) (hl : l.length ≤ 1000000) : impl_at.f l i = some (S l i) := by
  unfold impl_at.f
  rw [w64 (by omega) (by omega), in_val]; simp only [Option.bind_some]
  by_cases c : inB i 0 ((l.length : Int) - 1) = true
  · have c' := inB_iff.mp c
    rw [if_pos c, if_pos c'.1, if_pos (by omega), S_in c'.1 (by omega)]
  · rw [if_neg c, S_out (fun h => c (inB_iff.mpr (by omega)))]
theorem bpT_bd {h s : List Int} {p q : Nat} (U : UpS h s p q) (n : Nat) {m : Nat} (hm : m ≤ dcnt h.length (n % p) p) : -900000000 ≤ sm (bpT h s p n) m ∧ sm (bpT h s p n) m ≤ 900000000 := by
  have h9 := U.h9
  have hd := dcnt_le (m := h.length) (r := n % p) (show 0 < p by have := U.p1; omega)
  have := sm_bd (f := bpT h s p n) (B := 100000000) m (fun k hk => by
    have hk' : k < dcnt h.length (n % p) p := by omega
    have a := U.hw _ (dropL_mem (l := h) (p := p) (r := n % p) (show 0 < p by have := U.p1; omega) (rd_mem (l := dropL h p (n % p)) (i := k) (by omega) (by rw [dropL_len]; omega)))
    have b := S_bd (by omega) U.hs ((n / p : Nat) - (k : Int))
    have := mul_bd a.1 a.2 b.1 b.2
    unfold bpT
    omega)
  omega
theorem div_cast (n p : Nat) : Int.tdiv (n : Int) p = ((n / p : Nat) : Int) := by rw [tdiv_nn (by omega), Int.natCast_ediv]
theorem modn_cast (n p : Nat) : Int.tmod (n : Int) p = ((n % p : Nat) : Int) := by rw [tmod_nn (by omega), Int.natCast_emod]
theorem by_in {h s : List Int} {p q : Nat} (U : UpS h s p q) (i : Nat) (hi : i * q < s.length * p) (r : List Int × Bool)
    (ho : Evt (fun k => impl_ByPhases.l0 k s p q (phL h p) ((List.range (i + 1)).map (fun i : Nat => bpG h s p (i * q))) (((i + 1) * q : Nat) : Int)) r) :
    ∀ (d j : Nat), j + d = dcnt h.length ((i * q) % p) p → Evt (fun k => impl_ByPhases.l1 k s p q (phL h p) ((List.range i).map (fun i : Nat => bpG h s p (i * q))) ((i * q : Nat) : Int) (sm (bpT h s p (i * q)) j) (dropL h p ((i * q) % p)) (dcnt h.length ((i * q) % p) p : Nat) j) r
  | 0, j, hd => by
    have hq := U.q8
    have hroom := U.room
    have e : wrap64 (((i * q : Nat) : Int) + q) = (((i + 1) * q : Nat) : Int) := by
      rw [Nat.add_mul, Nat.one_mul]
      generalize i * q = z at *
      rw [w64 (by omega) (by omega)]; omega
    have hii : i ≤ 64 := by
      have : i * 1 ≤ i * q := Nat.mul_le_mul_left i U.q1
      omega
    have es : sm (bpT h s p (i * q)) j = bpG h s p (i * q) := by unfold bpG; congr 1
    refine Evt.step (fun k => ?_) ho
    simp only [impl_ByPhases.l1]
    rw [if_neg (by omega), if_pos (by simp; omega), e, es, range_snoc (fun i : Nat => bpG h s p (i * q)) i]
  | d + 1, j, hd => by
    have ih := by_in U i hi r ho d (j + 1) (by omega)
    have hroom := U.room
    have hp1 := U.p1
    have hlen := U.len
    have hdl := dropL_len h p ((i * q) % p)
    have hdh := dcnt_le (m := h.length) (r := (i * q) % p) (show 0 < p by omega)
    have h9 := U.h9
    have a := U.hw _ (dropL_mem (l := h) (p := p) (r := (i * q) % p) (show 0 < p by omega) (rd_mem (l := dropL h p ((i * q) % p)) (i := j) (by omega) (by omega)))
    have b := S_bd (by omega) U.hs (((i * q) / p : Nat) - (j : Int))
    have ab := mul_bd a.1 a.2 b.1 b.2
    have c := bpT_bd U (i * q) (m := j) (by omega)
    have hdv : (i * q) / p ≤ i * q := Nat.div_le_self _ _
    have e00 : wrap64 (((i * q) / p : Nat) : Int) = (((i * q) / p : Nat) : Int) := by
      clear ab c a b
      generalize (i * q) / p = y at *
      generalize i * q = z at *
      exact w64 (by omega) (by omega)
    have e0 : wrap64 ((((i * q) / p : Nat) : Int) - j) = (((i * q) / p : Nat) : Int) - j := by
      clear ab c a b e00
      generalize (i * q) / p = y at *
      generalize i * q = z at *
      exact w64 (by omega) (by omega)
    have e1 : wrap64 (rd (dropL h p ((i * q) % p)) j * S s (((i * q) / p : Nat) - (j : Int))) = bpT h s p (i * q) j := by
      clear e00 e0
      show _ = rd (dropL h p ((i * q) % p)) j * S s (((i * q) / p : Nat) - (j : Int))
      generalize rd (dropL h p ((i * q) % p)) j * S s (((i * q) / p : Nat) - (j : Int)) = y at *
      exact w64 (by omega) (by omega)
    have hb : -100000000 ≤ bpT h s p (i * q) j ∧ bpT h s p (i * q) j ≤ 100000000 := by
      clear e00 e0 e1
      show -100000000 ≤ rd (dropL h p ((i * q) % p)) j * S s (((i * q) / p : Nat) - (j : Int)) ∧ rd (dropL h p ((i * q) % p)) j * S s (((i * q) / p : Nat) - (j : Int)) ≤ 100000000
      omega
    have e2 : wrap64 (sm (bpT h s p (i * q)) j + bpT h s p (i * q) j) = sm (bpT h s p (i * q)) (j + 1) := by
      clear e00 e0 e1 ab
      show _ = sm (bpT h s p (i * q)) j + bpT h s p (i * q) j
      exact w64 (by omega) (by omega)
    have e3 : wrap64 ((j : Int) + 1) = ((j + 1 : Nat) : Int) := by clear e00 e0 e1 e2 ab c a b hb; rw [w64 (by omega) (by omega)]; rfl
    refine Evt.step (fun k => ?_) ih
    simp only [impl_ByPhases.l1]
    rw [div_cast, e00, e0, at_val s _ (by clear e00 e0 e1 e2 e3 ab c a b hb; omega), e3]; simp only [Option.bind_some]
    rw [e1, e2]
    clear e00 e0 e1 e2 e3 ab c a b hb
    rw [if_pos (by omega), if_pos (by omega), if_pos (by omega), if_neg (by omega)]
theorem by_out {h s : List Int} {p q : Nat} (U : UpS h s p q) : ∀ (d i : Nat), i + d = dcnt (s.length * p) 0 q →
    Evt (fun k => impl_ByPhases.l0 k s p q (phL h p) ((List.range i).map (fun i : Nat => bpG h s p (i * q))) ((i * q : Nat) : Int)) (told (upL h s p q))
  | 0, i, hd => by
    have hq1 := U.q1
    have hn : ¬ 0 + i * q < s.length * p := fun h => by have := (dcnt_lt (by omega)).mpr h; omega
    have hroom := U.room
    have ew : wrap64 ((s.length : Int) * p) = ((s.length * p : Nat) : Int) := by
      rw [← Int.natCast_mul]
      generalize s.length * p = z at *
      exact w64 (by omega) (by omega)
    have el : (List.range i).map (fun i : Nat => bpG h s p (i * q)) = upL h s p q := by
      have : i = dcnt (s.length * p) 0 q := by omega
      subst this
      unfold upL
      apply List.map_congr_left
      intro j _
      exact bp_up h s (by have := U.p1; omega) (j * q)
    refine Evt.step (h := fun _ => some (told (upL h s p q))) (fun k => ?_) (Evt.ret _)
    simp only [impl_ByPhases.l0]
    rw [ew, if_neg (by clear ew; omega), el, told_val]; rfl
  | d + 1, i, hd => by
    have ih := by_out U d (i + 1) (by omega)
    have hq1 := U.q1
    have hp1 := U.p1
    have hn : 0 + i * q < s.length * p := (dcnt_lt (by omega)).mp (by omega)
    have hroom := U.room
    have ew : wrap64 ((s.length : Int) * p) = ((s.length * p : Nat) : Int) := by
      rw [← Int.natCast_mul]
      generalize s.length * p = z at *
      exact w64 (by omega) (by omega)
    have hm := Nat.mod_lt (i * q) (show 0 < p by omega)
    refine Evt.step (fun k => ?_) (by_in U i (by omega) _ ih (dcnt h.length ((i * q) % p) p) 0 (by omega))
    simp only [impl_ByPhases.l0]
    rw [ew, modn_cast, phL_rd h hm, dropL_len, phL_len]
    clear ew
    rw [if_pos (by omega), if_neg (by omega), if_pos (by omega), if_pos (by omega)]; rfl
theorem ByPhases_val (h s : List Int) (p q : Int) : Evt (fun k => impl_ByPhases.f k h s p q) (upR h s p q) := by
  have no : Evt (fun k => impl_ByPhases.j0 k h s p q true) ([], false) := Evt.step (fun k => by simp only [impl_ByPhases.j0]; rw [if_pos trivial]) (Evt.ret _)
  unfold impl_ByPhases.f upR
  refine Evt.bindp (isWeights_val h) ?_
  by_cases h1 : wei h = true
  · refine Evt.pos h1 (Evt.bindp (isSignal_val s) ?_)
    by_cases h2 : sig s = true
    · refine Evt.pos h2 (Evt.bindp (isRatio_val p q) ?_)
      by_cases h3 : ratB p q = true
      · refine Evt.pos h3 ?_
        obtain ⟨a, b, rfl, rfl, a1, a8, b1, b8⟩ := rat_nat h3
        have hl := (sig_iff.mp h2).1
        have hm := len_mul (n := s.length) (p := a) (by omega) (by omega)
        have ew : wrap64 ((s.length : Int) * a) = ((s.length * a : Nat) : Int) := by
          rw [← Int.natCast_mul]
          generalize s.length * a = z at *
          exact w64 (by omega) (by omega)
        rw [ew]
        clear ew
        by_cases h4 : s.length * a ≤ 64
        · have hu : upB h s a b = true := by unfold upB; rw [h1, h2, h3, ← Int.natCast_mul, decide_eq_true (by omega)]; rfl
          obtain ⟨a', b', e1, e2, U⟩ := up_iff hu
          have e1' : a = a' := by omega
          have e2' : b = b' := by omega
          subst e1' e2'
          rw [if_pos hu, Int.toNat_natCast, Int.toNat_natCast, decide_eq_false (by omega)]
          refine Evt.step (fun k => by simp only [impl_ByPhases.j0]; rw [if_neg (by simp)]) ?_
          refine Evt.bind (phasesOf_val h a1 a8 (by have := U.h9; omega)) ?_
          have := by_out U (dcnt (s.length * a) 0 b) 0 (by omega)
          rw [Nat.zero_mul] at this
          exact this
        · have hu : ¬ upB h s a b = true := by
            intro hu
            obtain ⟨a', b', e1, e2, U⟩ := up_iff hu
            have e1' : a = a' := by omega
            subst e1'
            exact h4 U.room
          rw [if_neg hu, decide_eq_true (by omega)]
          exact no
      · have hu : ¬ upB h s p q = true := by unfold upB; rw [Bool.eq_false_iff.mpr h3]; simp
        rw [if_neg hu]; exact Evt.neg h3 no
    · have hu : ¬ upB h s p q = true := by unfold upB; rw [Bool.eq_false_iff.mpr h2]; simp
      rw [if_neg hu]; exact Evt.neg h2 no
  · have hu : ¬ upB h s p q = true := by unfold upB; rw [Bool.eq_false_iff.mpr h1]; simp
    rw [if_neg hu]; exact Evt.neg h1 no
/-- how many products the place n needs -/
def pcT (m p n : Nat) : Nat := min (dcnt m (n % p) p) (n / p + 1)
def pcN (m p q : Nat) : Nat → Nat
  | 0 => 0
  | i + 1 => pcN m p q i + pcT m p (i * q)
theorem pcN_le (m p q : Nat) (hp : 0 < p) : ∀ i, pcN m p q i ≤ i * m
  | 0 => by simp [pcN]
  | i + 1 => by
    have := pcN_le m p q hp i
    have h := dcnt_le (m := m) (r := (i * q) % p) hp
    have e : (i + 1) * m = i * m + m := by rw [Nat.add_mul, Nat.one_mul]
    simp only [pcN, pcT]; rw [e]; omega
theorem bp_cut (h s : List Int) (p n : Nat) : sm (bpT h s p n) (pcT h.length p n) = bpG h s p n := by
  unfold bpG pcT
  by_cases c : dcnt h.length (n % p) p ≤ n / p + 1
  · rw [Nat.min_eq_left c]
  · rw [Nat.min_eq_right (by omega)]
    obtain ⟨d, hd⟩ : ∃ d, dcnt h.length (n % p) p = (n / p + 1) + d := ⟨dcnt h.length (n % p) p - (n / p + 1), by omega⟩
    rw [hd]
    symm
    refine sm_more d (fun k hk => ?_)
    show rd (dropL h p (n % p)) k * S s ((n / p : Nat) - (k : Int)) = 0
    have : S s ((n / p : Nat) - (k : Int)) = 0 := S_out (fun h' => by
      have h1 := h'.1
      generalize n / p = y at *
      omega)
    rw [this]; simp
theorem rsby_in {h s : List Int} {p q : Nat} (U : UpS h s p q) (i : Nat) (hi : i * q < s.length * p) (r : List Int × Int)
    (ho : Evt (fun k => spec_rsByPhases.l0 k s p q (phL h p) ((List.range (i + 1)).map (fun i : Nat => bpG h s p (i * q))) (pcN h.length p q (i + 1)) (i + 1 : Nat)) r) :
    ∀ (d j : Nat), j + d = pcT h.length p (i * q) → Evt (fun k => spec_rsByPhases.l1 k s p q (phL h p) ((List.range i).map (fun i : Nat => bpG h s p (i * q))) ((pcN h.length p q i + j : Nat) : Int) i ((i * q) / p : Nat) (sm (bpT h s p (i * q)) j) (dropL h p ((i * q) % p)) (dcnt h.length ((i * q) % p) p : Nat) j) r
  | 0, j, hd => by
    have hj : j = pcT h.length p (i * q) := by omega
    have hroom := U.room
    have hii : i ≤ 64 := by
      have : i * 1 ≤ i * q := Nat.mul_le_mul_left i U.q1
      omega
    have es : sm (bpT h s p (i * q)) j = bpG h s p (i * q) := by rw [hj]; exact bp_cut h s p (i * q)
    have ec : pcN h.length p q i + j = pcN h.length p q (i + 1) := by rw [hj]; rfl
    have e : wrap64 ((i : Int) + 1) = ((i + 1 : Nat) : Int) := by clear es; rw [w64 (by omega) (by omega)]; rfl
    have hl : ((List.range i).map (fun i : Nat => bpG h s p (i * q))).length < 17592186044416 := by clear e es; simp; omega
    have hdl := dropL_len h p ((i * q) % p)
    refine Evt.step (fun k => ?_) ho
    simp only [spec_rsByPhases.l1]
    rw [e, es, ec, range_snoc (fun i : Nat => bpG h s p (i * q)) i]
    clear e es ec
    unfold pcT at hj
    by_cases c : j < dcnt h.length ((i * q) % p) p
    · have hs : j = (i * q) / p + 1 := by
        generalize (i * q) / p = y at *
        omega
      rw [if_pos (by omega), if_pos (by omega), if_pos (by omega), if_pos (by generalize (i * q) / p = y at *; omega), if_pos hl]
    · rw [if_neg (by omega), if_pos hl]
  | d + 1, j, hd => by
    have ih := rsby_in U i hi r ho d (j + 1) (by omega)
    have hroom := U.room
    have hp1 := U.p1
    have hlen := U.len
    have hj : j < pcT h.length p (i * q) := by omega
    unfold pcT at hj
    have hj1 : j < dcnt h.length ((i * q) % p) p := by omega
    have hj2 : j < (i * q) / p + 1 := by omega
    have hdl := dropL_len h p ((i * q) % p)
    have hdh := dcnt_le (m := h.length) (r := (i * q) % p) (show 0 < p by omega)
    have h9 := U.h9
    have hsrc : (i * q) / p < s.length := (Nat.div_lt_iff_lt_mul (by omega)).mpr hi
    have hii : i ≤ 64 := by
      have : i * 1 ≤ i * q := Nat.mul_le_mul_left i U.q1
      omega
    have hpc := pcN_le h.length p q (show 0 < p by omega) i
    have hpc2 : i * h.length ≤ 64 * 9 := Nat.mul_le_mul hii h9
    have a := U.hw _ (dropL_mem (l := h) (p := p) (r := (i * q) % p) (show 0 < p by omega) (rd_mem (l := dropL h p ((i * q) % p)) (i := j) (by omega) (by omega)))
    have b := S_bd (by omega) U.hs (((i * q) / p : Nat) - (j : Int))
    have hS : S s (((i * q) / p : Nat) - (j : Int)) = rd s (((i * q) / p : Nat) - (j : Int)) := S_in (by generalize (i * q) / p = y at *; omega) (by generalize (i * q) / p = y at *; omega)
    rw [hS] at b
    have ab := mul_bd a.1 a.2 b.1 b.2
    have c := bpT_bd U (i * q) (m := j) (by omega)
    have e0 : wrap64 ((((i * q) / p : Nat) : Int) - j) = (((i * q) / p : Nat) : Int) - j := by
      clear ab c a b hS
      generalize (i * q) / p = y at *
      exact w64 (by omega) (by omega)
    have e1 : wrap64 (rd (dropL h p ((i * q) % p)) j * rd s (((i * q) / p : Nat) - (j : Int))) = bpT h s p (i * q) j := by
      clear e0
      show _ = rd (dropL h p ((i * q) % p)) j * S s (((i * q) / p : Nat) - (j : Int))
      rw [hS]
      clear hS
      generalize rd (dropL h p ((i * q) % p)) j * rd s (((i * q) / p : Nat) - (j : Int)) = y at *
      exact w64 (by omega) (by omega)
    have hb : -100000000 ≤ bpT h s p (i * q) j ∧ bpT h s p (i * q) j ≤ 100000000 := by
      clear e0 e1
      show -100000000 ≤ rd (dropL h p ((i * q) % p)) j * S s (((i * q) / p : Nat) - (j : Int)) ∧ rd (dropL h p ((i * q) % p)) j * S s (((i * q) / p : Nat) - (j : Int)) ≤ 100000000
      rw [hS]
      omega
    clear ab a b hS
    have e2 : wrap64 (sm (bpT h s p (i * q)) j + bpT h s p (i * q) j) = sm (bpT h s p (i * q)) (j + 1) := by
      clear e0 e1
      show _ = sm (bpT h s p (i * q)) j + bpT h s p (i * q) j
      exact w64 (by omega) (by omega)
    clear c hb
    have e3 : wrap64 ((j : Int) + 1) = ((j + 1 : Nat) : Int) := by clear e0 e1 e2; rw [w64 (by omega) (by omega)]; rfl
    have e4 : wrap64 (((pcN h.length p q i + j : Nat) : Int) + 1) = ((pcN h.length p q i + (j + 1) : Nat) : Int) := by clear e0 e1 e2 e3; rw [w64 (by omega) (by omega)]; omega
    refine Evt.step (fun k => ?_) ih
    simp only [spec_rsByPhases.l1]
    rw [e0, e1, e2, e3, e4]
    clear e0 e1 e2 e3 e4 hpc hpc2
    generalize (i * q) / p = y at *
    rw [if_pos (by omega), if_pos (by omega), if_pos (by omega), if_neg (by omega), if_pos (by omega), if_pos (by omega)]
theorem rsLength_val {n p q : Nat} (h : n * p ≤ 64) (hq1 : 1 ≤ q) (hq8 : q ≤ 8) : spec_rsLength.f (n : Int) p q = some ((dcnt (n * p) 0 q : Nat) : Int) := by
  unfold spec_rsLength.f dcnt
  rw [← Int.natCast_mul]
  generalize n * p = z at *
  have e1 : wrap64 (wrap64 (wrap64 (z : Int) + q) - 1) = ((z - 0 + (q - 1) : Nat) : Int) := by
    rw [w64 (x := (z : Int)) (by omega) (by omega), w64 (x := (z : Int) + q) (by omega) (by omega), w64 (by omega) (by omega)]; omega
  rw [if_neg (by omega), e1, div_cast]
  clear e1
  have := Nat.div_le_self (z - 0 + (q - 1)) q
  generalize (z - 0 + (q - 1)) / q = y at *
  rw [w64 (by omega) (by omega)]
theorem rsby_out {h s : List Int} {p q : Nat} (U : UpS h s p q) : ∀ (d i : Nat), i + d = dcnt (s.length * p) 0 q →
    Evt (fun k => spec_rsByPhases.l0 k s p q (phL h p) ((List.range i).map (fun i : Nat => bpG h s p (i * q))) (pcN h.length p q i) i) (upL h s p q, (pcN h.length p q (dcnt (s.length * p) 0 q) : Int))
  | 0, i, hd => by
    have hi : i = dcnt (s.length * p) 0 q := by omega
    have el : (List.range i).map (fun i : Nat => bpG h s p (i * q)) = upL h s p q := by
      subst hi
      unfold upL
      apply List.map_congr_left
      intro j _
      exact bp_up h s (by have := U.p1; omega) (j * q)
    refine Evt.step (h := fun _ => some (upL h s p q, (pcN h.length p q (dcnt (s.length * p) 0 q) : Int))) (fun k => ?_) (Evt.ret _)
    simp only [spec_rsByPhases.l0]
    rw [rsLength_val U.room U.q1 U.q8]; simp only [Option.bind_some]
    rw [if_neg (by omega), el, hi]
  | d + 1, i, hd => by
    have ih := rsby_out U d (i + 1) (by omega)
    have hq1 := U.q1
    have hp1 := U.p1
    have hn : 0 + i * q < s.length * p := (dcnt_lt (by omega)).mp (by omega)
    have hroom := U.room
    have ew : wrap64 ((i : Int) * q) = ((i * q : Nat) : Int) := by
      rw [← Int.natCast_mul]
      generalize i * q = z at *
      exact w64 (by omega) (by omega)
    have hm := Nat.mod_lt (i * q) (show 0 < p by omega)
    have hdv : (i * q) / p ≤ i * q := Nat.div_le_self _ _
    have ed : wrap64 (((i * q) / p : Nat) : Int) = (((i * q) / p : Nat) : Int) := by
      clear ew
      generalize (i * q) / p = y at *
      generalize i * q = z at *
      exact w64 (by omega) (by omega)
    refine Evt.step (fun k => ?_) (rsby_in U i (by omega) _ ih (pcT h.length p (i * q)) 0 (by omega))
    simp only [spec_rsByPhases.l0]
    rw [rsLength_val U.room U.q1 U.q8]; simp only [Option.bind_some]
    rw [ew, modn_cast, div_cast, ed, phL_rd h hm, dropL_len, phL_len]
    clear ew ed
    rw [if_pos (by omega), if_neg (by omega), if_pos (by omega), if_pos (by omega)]; rfl
theorem rsByPhases_val {h s : List Int} {p q : Nat} (U : UpS h s p q) : Evt (fun k => spec_rsByPhases.f k h s p q) (upL h s p q, (pcN h.length p q (dcnt (s.length * p) 0 q) : Int)) := by
  unfold spec_rsByPhases.f
  exact Evt.bind (rsPhases_val h U.p1 U.p8 (by have := U.h9; omega)) (rsby_out U (dcnt (s.length * p) 0 q) 0 (by omega))
theorem specByPhases_val (h s : List Int) (p q : Int) : Evt (fun k => spec_ByPhases.f k h s p q) (upR h s p q) := by
  unfold spec_ByPhases.f upR
  refine Evt.bind (rsAsked_val h s p q) ?_
  by_cases hu : upB h s p q = true
  · rw [if_pos hu]
    obtain ⟨a, b, rfl, rfl, U⟩ := up_iff hu
    rw [Int.toNat_natCast, Int.toNat_natCast]
    exact Evt.pos hu (Evt.bind (rsByPhases_val U) (Evt.bind (wdIf_val _) (Evt.ret _)))
  · rw [if_neg hu]; exact Evt.neg hu (Evt.ret _)
def prB (h : List Int) (n p q : Int) : Bool := wei h && inB n 0 64 && ratB p q && decide (n * p ≤ 64)
theorem pr_iff {h : List Int} {n p q : Int} (hh : prB h n p q = true) : ∃ m a b : Nat, n = m ∧ p = a ∧ q = b ∧ UpS h (List.replicate m 0) a b := by
  unfold prB at hh
  simp only [Bool.and_eq_true, decide_eq_true_eq] at hh
  obtain ⟨⟨⟨h1, h2⟩, h3⟩, h4⟩ := hh
  obtain ⟨a, b, rfl, rfl, a1, a8, b1, b8⟩ := rat_nat h3
  have g1 := wei_iff.mp h1
  have g2 := inB_iff.mp h2
  obtain ⟨m, rfl⟩ : ∃ m : Nat, n = m := ⟨n.toNat, by omega⟩
  refine ⟨m, a, b, rfl, rfl, rfl, g1.1.1, g1.1.2, g1.2, by simp; omega, fun x hx => by rw [(List.mem_replicate.mp hx).2]; omega, a1, a8, b1, b8, ?_⟩
  rw [← Int.natCast_mul] at h4
  simp; omega
theorem nmul_w {n p : Int} (h0 : 0 ≤ n) (h1 : n ≤ 64) (h2 : 1 ≤ p) (h3 : p ≤ 8) : wrap64 (n * p) = n * p := by
  have := mul_bd (a := n) (b := p) (A := 64) (B := 8) (by omega) h1 (by omega) h3
  generalize n * p = z at *
  exact w64 (by omega) (by omega)
theorem isProducts_val (h : List Int) (n p q : Int) : impl_isProducts.f h n p q = some (prB h n p q) := by
  unfold impl_isProducts.f prB
  rw [isWeights_val]; simp only [Option.bind_some]; rw [in_val]; simp only [Option.bind_some]; rw [isRatio_val]; simp only [Option.bind_some]
  by_cases h1 : wei h = true
  · by_cases h2 : inB n 0 64 = true
    · by_cases h3 : ratB p q = true
      · have g2 := inB_iff.mp h2
        have h3' := h3
        unfold ratB at h3'; rw [Bool.and_eq_true, inB_iff] at h3'
        rw [h1, h2, h3, nmul_w g2.1 g2.2 h3'.1.1 h3'.1.2]; simp
      · rw [h1, h2, Bool.eq_false_iff.mpr h3]; simp
    · rw [h1, Bool.eq_false_iff.mpr h2]; simp
  · rw [Bool.eq_false_iff.mpr h1]; simp
theorem rsCount_val (h : List Int) (n p q : Int) : Evt (fun k => spec_rsCount.f k h n p q) (prB h n p q) := by
  unfold spec_rsCount.f prB
  refine Evt.bind (weGood_val h) ?_
  by_cases h1 : wei h = true
  · refine Evt.pos h1 (Evt.bindp (l1In_val _ _ _) ?_)
    by_cases h2 : inB n 0 64 = true
    · refine Evt.pos h2 (Evt.bindp (rsRatio_val p q) ?_)
      by_cases h3 : ratB p q = true
      · have g2 := inB_iff.mp h2
        have h3' := h3
        unfold ratB at h3'; rw [Bool.and_eq_true, inB_iff] at h3'
        refine Evt.pos h3 ((Evt.ret _).eq ?_)
        rw [h1, h2, h3, nmul_w g2.1 g2.2 h3'.1.1 h3'.1.2]; simp
      · exact Evt.neg h3 ((Evt.ret _).eq (by rw [Bool.eq_false_iff.mpr h3]; simp))
    · exact Evt.neg h2 ((Evt.ret _).eq (by rw [Bool.eq_false_iff.mpr h2]; simp))
  · exact Evt.neg h1 ((Evt.ret _).eq (by rw [Bool.eq_false_iff.mpr h1]; simp))
/-- min (m, 1) + .. + min (m, i) -/
def pdN (m : Nat) : Nat → Nat
  | 0 => 0
  | i + 1 => pdN m i + min m (i + 1)
theorem pdN_le (m : Nat) : ∀ i, pdN m i ≤ i * m
  | 0 => by simp [pdN]
  | i + 1 => by
    have := pdN_le m i
    have e : (i + 1) * m = i * m + m := by rw [Nat.add_mul, Nat.one_mul]
    simp only [pdN]; rw [e]; omega
theorem mn_nat (a b : Nat) : mn (a : Int) b = ((min a b : Nat) : Int) := by unfold mn; split <;> omega
theorem pd_loop {h : List Int} (h9 : h.length ≤ 9) {N : Nat} (hN : N ≤ 64) : ∀ (d i : Nat), i + d = N → Evt (fun k => impl_ProductsDirect.l0 k h (pdN h.length i) N i) ((pdN h.length N : Int), true)
  | 0, i, hd => by
    have : i = N := by omega
    subst this
    exact Evt.step (h := fun _ => some ((pdN h.length i : Int), true)) (fun k => by simp only [impl_ProductsDirect.l0]; rw [if_neg (by omega)]) (Evt.ret _)
  | d + 1, i, hd => by
    have ih := pd_loop h9 hN d (i + 1) (by omega)
    have hle := pdN_le h.length i
    have hm : i * h.length ≤ 64 * 9 := Nat.mul_le_mul (by omega) h9
    have e1 : wrap64 ((i : Int) + 1) = ((i + 1 : Nat) : Int) := by clear hle hm; rw [w64 (by omega) (by omega)]; rfl
    have e2 : wrap64 ((pdN h.length i : Int) + ((min h.length (i + 1) : Nat) : Int)) = ((pdN h.length (i + 1) : Nat) : Int) := by
      clear e1
      rw [w64 (by omega) (by omega)]
      show _ = ((pdN h.length i + min h.length (i + 1) : Nat) : Int)
      omega
    refine Evt.step (fun k => ?_) ih
    simp only [impl_ProductsDirect.l0]
    rw [e1, mn_nat, e2]
    clear e1 e2 hle hm
    rw [if_pos (by omega)]
theorem spd_loop {h : List Int} (h9 : h.length ≤ 9) {n p : Nat} (hN : n * p ≤ 64) : ∀ (d i : Nat), i + d = n * p → Evt (fun k => spec_ProductsDirect.l0 k h n p (pdN h.length i) i) ((pdN h.length (n * p) : Int), true)
  | 0, i, hd => by
    have ew : wrap64 ((n : Int) * p) = ((n * p : Nat) : Int) := by rw [← Int.natCast_mul]; generalize n * p = z at *; exact w64 (by omega) (by omega)
    have hi : i = n * p := by omega
    refine Evt.step (h := fun _ => some ((pdN h.length (n * p) : Int), true)) (fun k => ?_) (Evt.ret _)
    simp only [spec_ProductsDirect.l0]
    rw [ew, if_neg (by clear ew; omega), hi]
  | d + 1, i, hd => by
    have ih := spd_loop h9 hN d (i + 1) (by omega)
    have ew : wrap64 ((n : Int) * p) = ((n * p : Nat) : Int) := by rw [← Int.natCast_mul]; generalize n * p = z at *; exact w64 (by omega) (by omega)
    have hle := pdN_le h.length i
    have hm : i * h.length ≤ 64 * 9 := Nat.mul_le_mul (by omega) h9
    have e1 : wrap64 ((i : Int) + 1) = ((i + 1 : Nat) : Int) := by clear hle hm ew; rw [w64 (by omega) (by omega)]; rfl
    have e2 : wrap64 ((pdN h.length i : Int) + ((min h.length (i + 1) : Nat) : Int)) = ((pdN h.length (i + 1) : Nat) : Int) := by
      clear e1 ew
      rw [w64 (by omega) (by omega)]
      show _ = ((pdN h.length i + min h.length (i + 1) : Nat) : Int)
      omega
    refine Evt.step (fun k => ?_) ih
    simp only [spec_ProductsDirect.l0]
    rw [ew, e1, least_val, mn_nat]; simp only [Option.bind_some]
    rw [e2]
    clear e1 e2 hle hm ew
    rw [if_pos (by omega)]
def pdR (h : List Int) (n p q : Int) : Int × Bool := if prB h n p q = true then ((pdN h.length (n.toNat * p.toNat) : Int), true) else (0, false)
theorem ProductsDirect_val (h : List Int) (n p q : Int) : Evt (fun k => impl_ProductsDirect.f k h n p q) (pdR h n p q) := by
  unfold impl_ProductsDirect.f pdR
  refine Evt.bindp (isProducts_val h n p q) ?_
  by_cases hh : prB h n p q = true
  · obtain ⟨m, a, b, rfl, rfl, rfl, U⟩ := pr_iff hh
    have hroom := U.room
    rw [List.length_replicate] at hroom
    rw [if_pos hh, Int.toNat_natCast, Int.toNat_natCast]
    refine Evt.pos hh ?_
    have ew : wrap64 ((m : Int) * a) = ((m * a : Nat) : Int) := by rw [← Int.natCast_mul]; generalize m * a = z at *; exact w64 (by omega) (by omega)
    rw [ew]
    exact pd_loop U.h9 hroom (m * a) 0 (by omega)
  · rw [if_neg hh]; exact Evt.neg hh (Evt.ret _)
theorem specProductsDirect_val (h : List Int) (n p q : Int) : Evt (fun k => spec_ProductsDirect.f k h n p q) (pdR h n p q) := by
  unfold spec_ProductsDirect.f pdR
  refine Evt.bind (rsCount_val h n p q) ?_
  by_cases hh : prB h n p q = true
  · obtain ⟨m, a, b, rfl, rfl, rfl, U⟩ := pr_iff hh
    have hroom := U.room
    rw [List.length_replicate] at hroom
    rw [if_pos hh, Int.toNat_natCast, Int.toNat_natCast]
    exact Evt.pos hh (spd_loop U.h9 hroom (m * a) 0 (by omega))
  · rw [if_neg hh]; exact Evt.neg hh (Evt.ret _)
theorem pb_loop {h s : List Int} {p q : Nat} (U : UpS h s p q) : ∀ (d i : Nat), i + d = dcnt (s.length * p) 0 q →
    Evt (fun k => impl_ProductsByPhases.l0 k s.length p q (phL h p) (pcN h.length p q i) ((i * q : Nat) : Int)) ((pcN h.length p q (dcnt (s.length * p) 0 q) : Int), true)
  | 0, i, hd => by
    have hq1 := U.q1
    have hn : ¬ 0 + i * q < s.length * p := fun h => by have := (dcnt_lt (by omega)).mpr h; omega
    have hroom := U.room
    have hi : i = dcnt (s.length * p) 0 q := by omega
    have ew : wrap64 ((s.length : Int) * p) = ((s.length * p : Nat) : Int) := by rw [← Int.natCast_mul]; generalize s.length * p = z at *; exact w64 (by omega) (by omega)
    refine Evt.step (h := fun _ => some ((pcN h.length p q (dcnt (s.length * p) 0 q) : Int), true)) (fun k => ?_) (Evt.ret _)
    simp only [impl_ProductsByPhases.l0]
    rw [ew, if_neg (by clear ew; omega), hi]
  | d + 1, i, hd => by
    have ih := pb_loop U d (i + 1) (by omega)
    have hq1 := U.q1
    have hq8 := U.q8
    have hp1 := U.p1
    have h9 := U.h9
    have hn : 0 + i * q < s.length * p := (dcnt_lt (by omega)).mp (by omega)
    have hroom := U.room
    have ew : wrap64 ((s.length : Int) * p) = ((s.length * p : Nat) : Int) := by rw [← Int.natCast_mul]; generalize s.length * p = z at *; exact w64 (by omega) (by omega)
    have hm := Nat.mod_lt (i * q) (show 0 < p by omega)
    have hii : i ≤ 64 := by
      have : i * 1 ≤ i * q := Nat.mul_le_mul_left i U.q1
      omega
    have hpc := pcN_le h.length p q (show 0 < p by omega) i
    have hpc2 : i * h.length ≤ 64 * 9 := Nat.mul_le_mul hii h9
    have hdh := dcnt_le (m := h.length) (r := (i * q) % p) (show 0 < p by omega)
    have hdv : (i * q) / p ≤ i * q := Nat.div_le_self _ _
    have ed : wrap64 (wrap64 (((i * q) / p : Nat) : Int) + 1) = (((i * q) / p + 1 : Nat) : Int) := by
      clear ew
      generalize (i * q) / p = y at *
      generalize i * q = z at *
      rw [w64 (x := (y : Int)) (by omega) (by omega), w64 (by omega) (by omega)]; rfl
    have e1 : wrap64 (((i * q : Nat) : Int) + q) = (((i + 1) * q : Nat) : Int) := by
      clear ew ed
      rw [Nat.add_mul, Nat.one_mul]
      generalize i * q = z at *
      rw [w64 (by omega) (by omega)]; omega
    have e2 : wrap64 ((pcN h.length p q i : Int) + ((pcT h.length p (i * q) : Nat) : Int)) = ((pcN h.length p q (i + 1) : Nat) : Int) := by
      clear ew ed e1
      have : pcT h.length p (i * q) ≤ dcnt h.length ((i * q) % p) p := Nat.min_le_left _ _
      show _ = ((pcN h.length p q i + pcT h.length p (i * q) : Nat) : Int)
      rw [w64 (by omega) (by omega)]; omega
    refine Evt.step (fun k => ?_) ih
    simp only [impl_ProductsByPhases.l0]
    rw [ew, modn_cast, div_cast, ed, phL_rd h hm, dropL_len, phL_len, mn_nat, show min (dcnt h.length ((i * q) % p) p) ((i * q) / p + 1) = pcT h.length p (i * q) from rfl, e1, e2]
    clear ew ed e1 e2
    rw [if_pos (by omega), if_neg (by omega), if_pos (by omega), if_pos (by omega)]
def pbR (h : List Int) (n p q : Int) : Int × Bool := if prB h n p q = true then ((pcN h.length p.toNat q.toNat (dcnt (n.toNat * p.toNat) 0 q.toNat) : Int), true) else (0, false)
theorem ProductsByPhases_val (h : List Int) (n p q : Int) : Evt (fun k => impl_ProductsByPhases.f k h n p q) (pbR h n p q) := by
  unfold impl_ProductsByPhases.f pbR
  refine Evt.bindp (isProducts_val h n p q) ?_
  by_cases hh : prB h n p q = true
  · obtain ⟨m, a, b, rfl, rfl, rfl, U⟩ := pr_iff hh
    rw [if_pos hh, Int.toNat_natCast, Int.toNat_natCast, Int.toNat_natCast]
    refine Evt.pos hh (Evt.bind (phasesOf_val h U.p1 U.p8 (by have := U.h9; omega)) ?_)
    have := pb_loop U (dcnt ((List.replicate m (0 : Int)).length * a) 0 b) 0 (by omega)
    rw [Nat.zero_mul, List.length_replicate] at this
    exact this
  · rw [if_neg hh]; exact Evt.neg hh (Evt.ret _)
theorem specProductsByPhases_val (h : List Int) (n p q : Int) : Evt (fun k => spec_ProductsByPhases.f k h n p q) (pbR h n p q) := by
  unfold spec_ProductsByPhases.f pbR
  refine Evt.bind (rsCount_val h n p q) ?_
  by_cases hh : prB h n p q = true
  · obtain ⟨m, a, b, rfl, rfl, rfl, U⟩ := pr_iff hh
    have hlen := U.len
    rw [List.length_replicate] at hlen
    rw [if_pos hh, Int.toNat_natCast, Int.toNat_natCast, Int.toNat_natCast]
    have := rsByPhases_val U
    rw [List.length_replicate] at this
    exact Evt.pos hh (Evt.pos (by omega) (Evt.pos (by omega) (Evt.bind this (Evt.ret _))))
  · rw [if_neg hh]; exact Evt.neg hh (Evt.ret _)
/-- fewer products by phases -/
theorem pcT_le (m p n : Nat) (hp : 0 < p) : pcT m p n ≤ min m (n + 1) := by
  have h1 := dcnt_le (m := m) (r := n % p) hp
  have h2 := Nat.div_le_self n p
  unfold pcT
  omega
theorem few_many (m p q : Nat) (hp : 0 < p) (hq : 0 < q) : ∀ i, pcN m p q i ≤ pdN m ((i - 1) * q + if i = 0 then 0 else 1)
  | 0 => by simp [pcN]
  | i + 1 => by
    have ih := few_many m p q hp hq i
    have mono : ∀ a d, pdN m a ≤ pdN m (a + d) := fun a d => by
      induction d with
      | zero => exact Nat.le_refl _
      | succ d ih => exact Nat.le_trans ih (Nat.le_add_right _ _)
    have h1 : pcN m p q i ≤ pdN m (i * q) := by
      refine Nat.le_trans ih ?_
      rcases Nat.eq_zero_or_pos i with h | h
      · subst h; simp [pdN]
      · rw [if_neg (by omega)]
        have e : i * q = (i - 1) * q + 1 + (q - 1) := by
          obtain ⟨j, rfl⟩ : ∃ j, i = j + 1 := ⟨i - 1, by omega⟩
          rw [Nat.add_mul]; simp; omega
        rw [e]; exact mono _ _
    have h2 := pcT_le m p (i * q) hp
    rw [if_neg (by omega)]
    show pcN m p q i + pcT m p (i * q) ≤ pdN m (i * q) + min m (i * q + 1)
    omega
theorem few_le (m p q N : Nat) (hp : 0 < p) (hq : 0 < q) : pcN m p q (dcnt N 0 q) ≤ pdN m N := by
  have mono : ∀ a d, pdN m a ≤ pdN m (a + d) := fun a d => by
    induction d with
    | zero => exact Nat.le_refl _
    | succ d ih => exact Nat.le_trans ih (Nat.le_add_right _ _)
  have h := few_many m p q hp hq (dcnt N 0 q)
  refine Nat.le_trans h ?_
  rcases Nat.eq_zero_or_pos (dcnt N 0 q) with h0 | h0
  · rw [h0]; simp [pdN]
  · rw [if_neg (by omega)]
    have := (dcnt_lt (m := N) (r := 0) (j := dcnt N 0 q - 1) hq).mp (by omega)
    obtain ⟨d, hd⟩ : ∃ d, N = (dcnt N 0 q - 1) * q + 1 + d := ⟨N - ((dcnt N 0 q - 1) * q + 1), by omega⟩
    have := mono ((dcnt N 0 q - 1) * q + 1) d
    rw [← hd] at this
    exact this
def sumN (f : Nat → Nat) : Nat → Nat
  | 0 => 0
  | n + 1 => sumN f n + f n
theorem sumN_le {f g : Nat → Nat} : ∀ n, (∀ r, r < n → f r ≤ g r) → sumN f n ≤ sumN g n
  | 0, _ => Nat.le_refl _
  | n + 1, h => by have := sumN_le n (fun r hr => h r (by omega)); have := h n (by omega); simp only [sumN]; omega
theorem sumN_eq {f g : Nat → Nat} : ∀ n, (∀ r, r < n → f r ≤ g r) → sumN f n = sumN g n → ∀ r, r < n → f r = g r
  | 0, _, _, r, hr => by omega
  | n + 1, h, e, r, hr => by
    have h1 := sumN_le n (fun r hr => h r (by omega))
    have h2 := h n (by omega)
    simp only [sumN] at e
    by_cases c : r = n
    · subst c; omega
    · exact sumN_eq n (fun r hr => h r (by omega)) (by omega) r (by omega)
theorem sumN_congr {f g : Nat → Nat} : ∀ n, (∀ r, r < n → f r = g r) → sumN f n = sumN g n
  | 0, _ => rfl
  | n + 1, h => by simp only [sumN]; rw [sumN_congr n (fun r hr => h r (by omega)), h n (by omega)]
theorem sumN_mono (f : Nat → Nat) (a : Nat) : ∀ d, sumN f a ≤ sumN f (a + d)
  | 0 => Nat.le_refl _
  | d + 1 => Nat.le_trans (sumN_mono f a d) (Nat.le_add_right _ _)
theorem sumN_one {f : Nat → Nat} {r n : Nat} (h : r < n) : f r ≤ sumN f n := by
  obtain ⟨d, rfl⟩ : ∃ d, n = r + 1 + d := ⟨n - (r + 1), by omega⟩
  exact Nat.le_trans (Nat.le_add_left _ _) (sumN_mono f (r + 1) d)
theorem dcnt_zero {r p : Nat} (hp : 0 < p) : dcnt 0 r p = 0 := by
  rcases Nat.eq_zero_or_pos (dcnt 0 r p) with h | h
  · exact h
  · have := (dcnt_lt hp).mp h; omega
theorem dcnt_part {p : Nat} (hp : 0 < p) (m : Nat) : ∀ k, k ≤ p → sumN (fun r => dcnt (m + 1) r p) k = sumN (fun r => dcnt m r p) k + if m % p < k then 1 else 0
  | 0, _ => by simp [sumN]
  | k + 1, hk => by
    have ih := dcnt_part hp m k (by omega)
    have h := dcnt_succ (i := m) hp (show k < p by omega)
    simp only [sumN]
    rw [ih, h]
    by_cases c : m % p = k
    · rw [if_pos c, if_neg (by omega), if_pos (by omega)]; omega
    · rw [if_neg c]
      by_cases d : m % p < k
      · rw [if_pos d, if_pos (by omega)]; omega
      · rw [if_neg d, if_neg (by omega)]; omega
theorem dcnt_sum {p : Nat} (hp : 0 < p) : ∀ m, sumN (fun r => dcnt m r p) p = m
  | 0 => by
    have : ∀ n, sumN (fun r => dcnt 0 r p) n = 0 := fun n => by
      induction n with
      | zero => rfl
      | succ n ih => simp only [sumN]; rw [ih, dcnt_zero hp]
    exact this p
  | m + 1 => by rw [dcnt_part hp m p (Nat.le_refl _), dcnt_sum hp m, if_pos (Nat.mod_lt m hp)]
def lnL (L : List (List Int)) (r : Nat) : Nat := (rd_L2 L r).length
def mnL (L : List (List Int)) (k : Nat) : Nat := sumN (lnL L) k
def jpP (L : List (List Int)) : Prop := ∀ r, r < L.length → lnL L r = dcnt (mnL L L.length) r L.length
def joL (L : List (List Int)) : List Int := (List.range (mnL L L.length)).map (fun i : Nat => rd (rd_L2 L ((i % L.length : Nat) : Int)) ((i / L.length : Nat) : Int))
/-- each place is there -/
def jpS (L : List (List Int)) : Prop := ∀ i, i < mnL L L.length → i / L.length < lnL L (i % L.length)
theorem jp_S {L : List (List Int)} (hp : 0 < L.length) (h : jpP L) : jpS L := fun i hi => by
  rw [h _ (Nat.mod_lt i hp), dcnt_lt hp, Nat.mul_comm]
  have := Nat.div_add_mod i L.length
  omega
theorem S_jp {L : List (List Int)} (hp : 0 < L.length) (h : jpS L) : jpP L := by
  have hle : ∀ r, r < L.length → dcnt (mnL L L.length) r L.length ≤ lnL L r := fun r hr => by
    rcases Nat.lt_or_ge (lnL L r) (dcnt (mnL L L.length) r L.length) with c | c
    · exfalso
      have h1 := (dcnt_lt hp).mp c
      have h2 := h _ h1
      rw [Nat.add_mul_mod_self_right, Nat.mod_eq_of_lt hr, Nat.add_mul_div_right _ _ hp, Nat.div_eq_of_lt hr] at h2
      omega
    · exact c
  intro r hr
  exact (sumN_eq L.length hle (dcnt_sum hp _) r hr).symm
/-- lengths fall, by one at most -/
def jpI (L : List (List Int)) (k : Nat) : Prop := ∀ r, r < k → (0 < r → lnL L r ≤ lnL L (r - 1)) ∧ lnL L 0 ≤ lnL L r + 1
theorem jp_I {L : List (List Int)} (hp : 0 < L.length) (h : jpP L) : jpI L L.length := fun r hr => by
  refine ⟨fun h0 => ?_, ?_⟩
  · rw [h r hr, h (r - 1) (by omega)]
    rcases Nat.lt_or_ge (dcnt (mnL L L.length) (r - 1) L.length) (dcnt (mnL L L.length) r L.length) with c | c
    · have := (dcnt_lt hp).mp c
      have : dcnt (mnL L L.length) (r - 1) L.length < dcnt (mnL L L.length) (r - 1) L.length := (dcnt_lt hp).mpr (by omega)
      omega
    · exact c
  · rw [h r hr, h 0 hp]
    rcases Nat.lt_or_ge (dcnt (mnL L L.length) r L.length + 1) (dcnt (mnL L L.length) 0 L.length) with c | c
    · have h1 := (dcnt_lt hp).mp c
      rw [Nat.add_mul, Nat.one_mul] at h1
      have : dcnt (mnL L L.length) r L.length < dcnt (mnL L L.length) r L.length := (dcnt_lt hp).mpr (by omega)
      omega
    · exact c
theorem I_le {L : List (List Int)} (h : jpI L L.length) {a : Nat} : ∀ d, a + d < L.length → lnL L (a + d) ≤ lnL L a
  | 0, _ => Nat.le_refl _
  | d + 1, hd => Nat.le_trans ((h (a + (d + 1)) hd).1 (by omega)) (I_le h d (by omega))
theorem I_S {L : List (List Int)} (hp : 0 < L.length) (h : jpI L L.length) : jpS L := fun i hi => by
  rcases Nat.lt_or_ge (i / L.length) (lnL L (i % L.length)) with c | c
  · exact c
  · exfalso
    have hr := Nat.mod_lt i hp
    have hdm := Nat.div_add_mod i L.length
    have key : ∀ k, k ≤ L.length → sumN (lnL L) k ≤ i / L.length * k + min k (i % L.length) := fun k => by
      induction k with
      | zero => intro _; simp [sumN]
      | succ k ih =>
        intro hk
        have ih := ih (by omega)
        have e : i / L.length * (k + 1) = i / L.length * k + i / L.length := by rw [Nat.mul_add, Nat.mul_one]
        simp only [sumN]
        rw [e]
        by_cases ck : k < i % L.length
        · have h1 : lnL L k ≤ lnL L 0 := by have := I_le h (a := 0) k (by omega); rwa [Nat.zero_add] at this
          have h2 := (h _ hr).2
          rw [Nat.min_eq_left (by omega)] at ih
          rw [Nat.min_eq_left (by omega)]
          omega
        · have h1 : lnL L k ≤ lnL L (i % L.length) := by
            have := I_le h (a := i % L.length) (k - i % L.length) (by omega)
            rwa [show i % L.length + (k - i % L.length) = k by omega] at this
          rw [Nat.min_eq_right (by omega)] at ih
          rw [Nat.min_eq_right (by omega)]
          omega
    have := key L.length (Nat.le_refl _)
    rw [Nat.min_eq_right (by omega), Nat.mul_comm] at this
    unfold mnL at hi
    omega
def jpB (L : List (List Int)) : Bool := (List.range L.length).all (fun r => decide (lnL L r = dcnt (mnL L L.length) r L.length))
theorem jpB_iff {L : List (List Int)} : jpB L = true ↔ jpP L := by
  unfold jpB jpP
  rw [List.all_eq_true]
  constructor
  · intro h r hr; exact of_decide_eq_true (h r (List.mem_range.mpr hr))
  · intro h r hr; exact decide_eq_true (h r (List.mem_range.mp hr))
def joR (L : List (List Int)) : List Int × Bool := if (inB L.length 1 8 && jpB L && wei (joL L)) = true then (joL L, true) else ([], false)
theorem joR_yes {L : List (List Int)} (h1 : inB L.length 1 8 = true) (h2 : jpP L) : joR L = if wei (joL L) = true then (joL L, true) else ([], false) := by
  have e : jpB L = true := jpB_iff.mpr h2
  unfold joR; rw [h1, e]; simp
theorem joR_no {L : List (List Int)} (h2 : ¬ jpP L) : joR L = ([], false) := by
  have e : jpB L = false := Bool.eq_false_iff.mpr (fun h => h2 (jpB_iff.mp h))
  unfold joR; rw [e]; simp
theorem joR_many {L : List (List Int)} (h : 9 < mnL L L.length) : joR L = ([], false) := by
  have e : wei (joL L) = false := Bool.eq_false_iff.mpr (fun h' => by have := (wei_iff.mp h').1; simp [joL] at this; omega)
  unfold joR; rw [e]; simp
theorem weighed_val (l : List Int) : impl_weighed.f l = some (if wei l = true then (l, true) else ([], false)) := by
  unfold impl_weighed.f; rw [isWeights_val]; simp only [Option.bind_some]; split <;> rfl
theorem weIf_val (l : List Int) : Evt (fun k => spec_weIf.f k l) (if wei l = true then (l, true) else ([], false)) := by
  unfold spec_weIf.f
  refine Evt.bind (weGood_val l) ?_
  by_cases h : wei l = true
  · exact Evt.pos h ((Evt.ret _).eq (by rw [if_pos h]))
  · exact Evt.neg h ((Evt.ret _).eq (by rw [if_neg h]))
/-- lists that are not too great -/
structure Few (L : List (List Int)) : Prop where
  p1 : 1 ≤ L.length
  p8 : L.length ≤ 8
  row : ∀ r, lnL L r ≤ 1000
theorem mnL_le {L : List (List Int)} (F : Few L) : ∀ k, mnL L k ≤ k * 1000
  | 0 => by simp [mnL, sumN]
  | k + 1 => by
    have := mnL_le F k
    have h := F.row k
    unfold mnL at this ⊢
    simp only [sumN]; omega
theorem divn_cast (n p : Nat) : Int.tdiv (n : Int) p = ((n / p : Nat) : Int) := div_cast n p
theorem join_l1 {L : List (List Int)} (F : Few L) (hS : jpS L) (h9 : mnL L L.length ≤ 9) : ∀ (d i : Nat), i + d = mnL L L.length →
    Evt (fun k => impl_JoinPhases.l1 k L L.length ((List.range i).map (fun i : Nat => rd (rd_L2 L ((i % L.length : Nat) : Int)) ((i / L.length : Nat) : Int))) (mnL L L.length) i) (if wei (joL L) = true then (joL L, true) else ([], false))
  | 0, i, hd => by
    have hi : i = mnL L L.length := by omega
    refine Evt.step (h := fun _ => some (if wei (joL L) = true then (joL L, true) else ([], false))) (fun k => ?_) (Evt.ret _)
    simp only [impl_JoinPhases.l1]
    rw [if_neg (by omega), hi, show (List.range (mnL L L.length)).map (fun i : Nat => rd (rd_L2 L ((i % L.length : Nat) : Int)) ((i / L.length : Nat) : Int)) = joL L from rfl, weighed_val]; rfl
  | d + 1, i, hd => by
    have ih := join_l1 F hS h9 d (i + 1) (by omega)
    have hp := F.p1
    have hp8 := F.p8
    have hm := Nat.mod_lt i (show 0 < L.length by omega)
    have hv := hS i (by omega)
    have hdv := Nat.div_le_self i L.length
    unfold lnL at hv
    have ed : wrap64 ((i / L.length : Nat) : Int) = ((i / L.length : Nat) : Int) := by
      generalize i / L.length = y at *
      exact w64 (by omega) (by omega)
    have e : wrap64 ((i : Int) + 1) = ((i + 1 : Nat) : Int) := by clear ed; rw [w64 (by omega) (by omega)]; rfl
    refine Evt.step (fun k => ?_) ih
    simp only [impl_JoinPhases.l1]
    rw [modn_cast, divn_cast, ed, e, range_snoc (fun i : Nat => rd (rd_L2 L ((i % L.length : Nat) : Int)) ((i / L.length : Nat) : Int)) i]
    clear ed e
    have hl : ((List.range i).map (fun i : Nat => rd (rd_L2 L ((i % L.length : Nat) : Int)) ((i / L.length : Nat) : Int))).length < 17592186044416 := by simp; omega
    rw [if_pos (by omega), if_neg (by omega), if_pos (Int.natCast_nonneg _), if_pos (Int.ofNat_lt.mpr hm), if_pos (Int.natCast_nonneg _), if_pos (Int.ofNat_lt.mpr hv), if_pos hl]
theorem join_l0 {L : List (List Int)} (F : Few L) : ∀ (d k : Nat), k + d = L.length → jpI L k → Evt (fun q => impl_JoinPhases.l0 q L L.length (mnL L k) L L.length k) (joR L)
  | 0, k, hd, hI => by
    have hk : k = L.length := by omega
    subst hk
    have hp := F.p1
    have hin : inB L.length 1 8 = true := inB_iff.mpr (by have := F.p8; omega)
    have hS := I_S (by omega) hI
    have hP := S_jp (by omega) hS
    refine Evt.step (fun q => by simp only [impl_JoinPhases.l0]; rw [if_neg (by omega)]) ?_
    by_cases c : 9 < mnL L L.length
    · rw [joR_many c]; exact Evt.pos (by omega) (Evt.ret _)
    · rw [joR_yes hin hP]
      exact Evt.neg (by omega) (join_l1 F hS (by omega) (mnL L L.length) 0 (by omega))
  | d + 1, k, hd, hI => by
    have hp := F.p1
    have hp8 := F.p8
    have hrow := F.row
    have hmn := mnL_le F k
    have hk := F.row k
    have h0 := F.row 0
    have hk1 := F.row (k - 1)
    have es : wrap64 ((mnL L k : Int) + ((rd_L2 L k).length : Int)) = ((mnL L (k + 1) : Nat) : Int) := by
      show _ = ((mnL L k + lnL L k : Nat) : Int)
      unfold lnL at *
      rw [w64 (by omega) (by omega)]; rfl
    have ek : wrap64 ((k : Int) + 1) = ((k + 1 : Nat) : Int) := by clear es; rw [w64 (by omega) (by omega)]; rfl
    have h0' : (rd_L2 L 0).length ≤ 1000 := h0
    have e0 : wrap64 (((rd_L2 L 0).length : Int) - 1) = ((rd_L2 L 0).length : Int) - 1 := by clear es ek; exact w64 (by omega) (by omega)
    have no : ¬ jpI L (k + 1) → joR L = ([], false) := fun h => joR_no (fun h' => h (fun r hr => jp_I (by omega) h' r (by omega)))
    by_cases c1 : 0 < k ∧ lnL L (k - 1) < lnL L k
    · have hf : joR L = ([], false) := no (fun h => by have := (h k (by omega)).1 c1.1; omega)
      rw [hf]
      have ek1 : wrap64 ((k : Int) - 1) = ((k - 1 : Nat) : Int) := by clear es ek e0; rw [w64 (by omega) (by omega)]; omega
      refine Evt.step (h := fun _ => some ([], false)) (fun q => ?_) (Evt.ret _)
      simp only [impl_JoinPhases.l0]
      rw [ek1]
      clear es ek e0 ek1
      obtain ⟨c1a, c1b⟩ := c1
      unfold lnL at c1b
      rw [if_pos (by omega), if_pos (by omega), if_pos (by omega), if_pos (by omega), if_pos (by omega), if_pos (by omega), if_pos (by omega)]
    · by_cases c2 : lnL L k + 1 < lnL L 0
      · have hf : joR L = ([], false) := no (fun h => by have := (h k (by omega)).2; omega)
        rw [hf]
        have c2' : lnL L k + 1 < (rd_L2 L 0).length := c2
        refine Evt.step (h := fun _ => some ([], false)) (fun q => ?_) (Evt.ret _)
        simp only [impl_JoinPhases.l0]
        rw [e0]
        clear es ek e0
        by_cases c3 : 0 < k
        · have ek1 : wrap64 ((k : Int) - 1) = ((k - 1 : Nat) : Int) := by rw [w64 (by omega) (by omega)]; omega
          rw [ek1]
          clear ek1
          have c1' : ¬ lnL L (k - 1) < lnL L k := fun h => c1 ⟨c3, h⟩
          unfold lnL at c2' c1'
          rw [if_pos (by omega), if_pos (by omega), if_pos (by omega), if_pos (by omega), if_pos (by omega), if_pos (by omega), if_neg (by omega), if_pos (by omega), if_pos (by omega)]
        · unfold lnL at c2'
          rw [if_pos (by omega), if_pos (by omega), if_pos (by omega), if_neg (by omega), if_pos (by omega), if_pos (by omega)]
      · have hI' : jpI L (k + 1) := fun r hr => by
          by_cases e : r = k
          · subst e; exact ⟨fun h => by have : ¬ lnL L (r - 1) < lnL L r := fun h' => c1 ⟨h, h'⟩
                                        omega, by omega⟩
          · exact hI r (by omega)
        have ih := join_l0 F d (k + 1) (by omega) hI'
        refine Evt.step (fun q => ?_) ih
        simp only [impl_JoinPhases.l0]
        rw [e0, es, ek]
        clear es ek e0
        by_cases c3 : 0 < k
        · have ek1 : wrap64 ((k : Int) - 1) = ((k - 1 : Nat) : Int) := by rw [w64 (by omega) (by omega)]; omega
          rw [ek1]
          clear ek1
          have c1' : ¬ lnL L (k - 1) < lnL L k := fun h => c1 ⟨c3, h⟩
          have c2' : ¬ lnL L k + 1 < (rd_L2 L 0).length := c2
          unfold lnL at c1' c2'
          rw [if_pos (by omega), if_pos (by omega), if_pos (by omega), if_pos (by omega), if_pos (by omega), if_pos (by omega), if_neg (by omega), if_pos (by omega), if_neg (by omega)]
        · have c2' : ¬ lnL L k + 1 < (rd_L2 L 0).length := c2
          unfold lnL at c2'
          rw [if_pos (by omega), if_pos (by omega), if_pos (by omega), if_neg (by omega), if_pos (by omega), if_neg (by omega)]
theorem JoinPhases_val {L : List (List Int)} (hl : L.length ≤ 1000) (hrow : ∀ r, lnL L r ≤ 1000) : Evt (fun k => impl_JoinPhases.f k L) (joR L) := by
  unfold impl_JoinPhases.f
  refine Evt.bindp (in_val _ _ _) ?_
  by_cases h : inB L.length 1 8 = true
  · have h' := inB_iff.mp h
    exact Evt.pos h (join_l0 ⟨by omega, by omega, hrow⟩ L.length 0 (by omega) (fun r hr => by omega))
  · have : joR L = ([], false) := by unfold joR; rw [Bool.eq_false_iff.mpr h]; simp
    rw [this]; exact Evt.neg h (Evt.ret _)
theorem sjoin_l1 {L : List (List Int)} (F : Few L) (h9 : ∀ r, r < L.length → lnL L r ≤ 9) : ∀ (d i : Nat), i + d = mnL L L.length → (∀ j, j < i → j / L.length < lnL L (j % L.length)) →
    Evt (fun k => spec_JoinPhases.l1 k L L.length (mnL L L.length) ((List.range i).map (fun i : Nat => rd (rd_L2 L ((i % L.length : Nat) : Int)) ((i / L.length : Nat) : Int))) i) (joR L)
  | 0, i, hd, hi => by
    have hi' : i = mnL L L.length := by omega
    have hp := F.p1
    have hin : inB L.length 1 8 = true := inB_iff.mpr (by have := F.p8; omega)
    have hP : jpP L := S_jp (by omega) (fun j hj => hi j (by omega))
    rw [joR_yes hin hP]
    have hw := weIf_val (joL L)
    refine Evt.step (h := fun k => (spec_weIf.f k (joL L)).bind fun bt534 => some (bt534.1, bt534.2)) (fun k => ?_) (Evt.bind hw (Evt.ret _))
    simp only [spec_JoinPhases.l1]
    rw [if_neg (by omega), hi']; rfl
  | d + 1, i, hd, hi => by
    have hp := F.p1
    have hp8 := F.p8
    have hm := Nat.mod_lt i (show 0 < L.length by omega)
    have hdv := Nat.div_le_self i L.length
    have hmn := mnL_le F L.length
    have ed : wrap64 ((i / L.length : Nat) : Int) = ((i / L.length : Nat) : Int) := by
      generalize i / L.length = y at *
      exact w64 (by omega) (by omega)
    by_cases hv : i / L.length < lnL L (i % L.length)
    · have ih := sjoin_l1 F h9 d (i + 1) (by omega) (fun j hj => by
        by_cases e : j = i
        · subst e; exact hv
        · exact hi j (by omega))
      have e : wrap64 ((i : Int) + 1) = ((i + 1 : Nat) : Int) := by clear ed; rw [w64 (by omega) (by omega)]; rfl
      have hl : ((List.range i).map (fun i : Nat => rd (rd_L2 L ((i % L.length : Nat) : Int)) ((i / L.length : Nat) : Int))).length < 17592186044416 := by clear ed e; simp; omega
      refine Evt.step (fun k => ?_) ih
      simp only [spec_JoinPhases.l1]
      rw [modn_cast, divn_cast, ed, e, range_snoc (fun i : Nat => rd (rd_L2 L ((i % L.length : Nat) : Int)) ((i / L.length : Nat) : Int)) i]
      clear ed e
      unfold lnL at hv
      rw [if_pos (by omega), if_neg (by omega), if_pos (Int.natCast_nonneg _), if_pos (Int.ofNat_lt.mpr hm), if_neg (fun h => by have := Int.ofNat_le.mp h; omega), if_pos (Int.natCast_nonneg _), if_pos (Int.ofNat_lt.mpr hv), if_pos hl]
    · have hf : joR L = ([], false) := joR_no (fun h => hv (jp_S (by omega) h i (by omega)))
      rw [hf]
      refine Evt.step (h := fun _ => some ([], false)) (fun k => ?_) (Evt.ret _)
      simp only [spec_JoinPhases.l1]
      rw [modn_cast, divn_cast, ed]
      clear ed
      unfold lnL at hv
      rw [if_pos (by omega), if_neg (by omega), if_pos (Int.natCast_nonneg _), if_pos (Int.ofNat_lt.mpr hm), if_pos (Int.ofNat_le.mpr (by omega))]
theorem sjoin_l0 {L : List (List Int)} (F : Few L) : ∀ (d k : Nat), k + d = L.length → (∀ r, r < k → lnL L r ≤ 9) → Evt (fun q => spec_JoinPhases.l0 q L L.length (mnL L k) L L.length k) (joR L)
  | 0, k, hd, h9 => by
    have hk : k = L.length := by omega
    subst hk
    refine Evt.step (fun q => by simp only [spec_JoinPhases.l0]; rw [if_neg (by omega)]) ?_
    exact sjoin_l1 F h9 (mnL L L.length) 0 (by omega) (fun j hj => by omega)
  | d + 1, k, hd, h9 => by
    have hp8 := F.p8
    have hmn := mnL_le F k
    have hk := F.row k
    have es : wrap64 ((mnL L k : Int) + ((rd_L2 L k).length : Int)) = ((mnL L (k + 1) : Nat) : Int) := by
      show _ = ((mnL L k + lnL L k : Nat) : Int)
      unfold lnL at *
      rw [w64 (by omega) (by omega)]; rfl
    have ek : wrap64 ((k : Int) + 1) = ((k + 1 : Nat) : Int) := by clear es; rw [w64 (by omega) (by omega)]; rfl
    by_cases c : lnL L k ≤ 9
    · have ih := sjoin_l0 F d (k + 1) (by omega) (fun r hr => by
        by_cases e : r = k
        · subst e; exact c
        · exact h9 r (by omega))
      refine Evt.step (fun q => ?_) ih
      simp only [spec_JoinPhases.l0]
      rw [es, ek]
      clear es ek
      unfold lnL at c
      rw [if_pos (by omega), if_pos (by omega), if_pos (by omega), if_neg (by omega)]
    · have hf : joR L = ([], false) := joR_many (by
        have := sumN_one (f := lnL L) (r := k) (n := L.length) (by omega)
        unfold mnL; omega)
      rw [hf]
      refine Evt.step (h := fun _ => some ([], false)) (fun q => ?_) (Evt.ret _)
      simp only [spec_JoinPhases.l0]
      clear es ek
      unfold lnL at c
      rw [if_pos (by omega), if_pos (by omega), if_pos (by omega), if_pos (by omega)]
theorem specJoinPhases_val {L : List (List Int)} (hl : L.length ≤ 1000) (hrow : ∀ r, lnL L r ≤ 1000) : Evt (fun k => spec_JoinPhases.f k L) (joR L) := by
  unfold spec_JoinPhases.f
  refine Evt.bindp (l1In_val _ _ _) ?_
  by_cases h : inB L.length 1 8 = true
  · have h' := inB_iff.mp h
    exact Evt.pos h (sjoin_l0 ⟨by omega, by omega, hrow⟩ L.length 0 (by omega) (fun r hr => by omega))
  · have : joR L = ([], false) := by unfold joR; rw [Bool.eq_false_iff.mpr h]; simp
    rw [this]; exact Evt.neg h (Evt.ret _)
def phR (h : List Int) (p : Int) : List (List Int) × Bool := if (wei h && inB p 1 8) = true then (phL h p.toNat, true) else ([], false)
theorem PhasesOf_val (h : List Int) (p : Int) : Evt (fun k => impl_PhasesOf.f k h p) (phR h p) := by
  unfold impl_PhasesOf.f phR
  have er : ratB p 1 = inB p 1 8 := by unfold ratB; rw [show inB 1 1 8 = true from rfl, Bool.and_true]
  refine Evt.bindp (isWeights_val h) ?_
  by_cases h1 : wei h = true
  · refine Evt.pos h1 (Evt.bindp (isRatio_val p 1) ?_)
    rw [er]
    by_cases h2 : inB p 1 8 = true
    · have h2' := inB_iff.mp h2
      have g := wei_iff.mp h1
      obtain ⟨a, rfl⟩ : ∃ a : Nat, p = a := ⟨p.toNat, by omega⟩
      rw [h1, h2, Int.toNat_natCast]
      exact Evt.pos rfl (Evt.bind (phasesOf_val h (by omega) (by omega) (by omega)) ((Evt.ret _).eq (by simp)))
    · rw [Bool.eq_false_iff.mpr h2]; exact Evt.neg (by simp) ((Evt.ret _).eq (by simp))
  · rw [Bool.eq_false_iff.mpr h1]; exact Evt.neg (by simp) ((Evt.ret _).eq (by simp))
theorem specPhasesOf_val (h : List Int) (p : Int) : Evt (fun k => spec_PhasesOf.f k h p) (phR h p) := by
  unfold spec_PhasesOf.f phR
  refine Evt.bind (weGood_val h) ?_
  by_cases h1 : wei h = true
  · refine Evt.pos h1 (Evt.bindp (l1In_val _ _ _) ?_)
    by_cases h2 : inB p 1 8 = true
    · have h2' := inB_iff.mp h2
      have g := wei_iff.mp h1
      obtain ⟨a, rfl⟩ : ∃ a : Nat, p = a := ⟨p.toNat, by omega⟩
      rw [h1, h2, Int.toNat_natCast]
      exact Evt.pos rfl (Evt.bind (rsPhases_val h (by omega) (by omega) (by omega)) ((Evt.ret _).eq (by simp)))
    · rw [Bool.eq_false_iff.mpr h2]; exact Evt.neg (by simp) ((Evt.ret _).eq (by simp))
  · rw [Bool.eq_false_iff.mpr h1]; exact Evt.neg (by simp) ((Evt.ret _).eq (by simp))
theorem lnL_ph {h : List Int} {p r : Nat} (hr : r < p) : lnL (phL h p) r = dcnt h.length r p := by unfold lnL; rw [phL_rd h hr, dropL_len]
theorem mnL_ph {h : List Int} {p : Nat} (hp : 0 < p) : mnL (phL h p) (phL h p).length = h.length := by
  rw [phL_len]
  unfold mnL
  rw [sumN_congr p (fun r hr => lnL_ph hr), dcnt_sum hp]
theorem join_ph {h : List Int} {p : Nat} (hp : 1 ≤ p) (hp8 : p ≤ 8) (hw : wei h = true) : joR (phL h p) = (h, true) := by
  have hm := mnL_ph (h := h) (show 0 < p by omega)
  have hjp : jpP (phL h p) := fun r hr => by
    rw [hm, phL_len]
    rw [phL_len] at hr
    exact lnL_ph hr
  have hin : inB (phL h p).length 1 8 = true := inB_iff.mpr (by rw [phL_len]; omega)
  have hjo : joL (phL h p) = h := by
    unfold joL
    rw [hm, phL_len]
    apply List.ext_getElem
    · simp
    · intro i h1 h2
      simp only [List.getElem_map, List.getElem_range]
      have hmod := Nat.mod_lt i (show 0 < p by omega)
      have hdm := Nat.div_add_mod i p
      rw [phL_rd h hmod, dropL_rd ((dcnt_lt (by omega)).mpr (by rw [Nat.mul_comm]; omega))]
      have : i % p + i / p * p = i := by rw [Nat.mul_comm]; omega
      rw [this, rd_lt h2]
  rw [joR_yes hin hjp, hjo, if_pos hw]
theorem ph_join {L : List (List Int)} {l : List Int} (h : joR L = (l, true)) : (wei l && inB L.length 1 8) = true ∧ phL l L.length = L := by
  unfold joR at h
  by_cases c : (inB L.length 1 8 && jpB L && wei (joL L)) = true
  · rw [if_pos c] at h
    obtain ⟨rfl, _⟩ := Prod.mk.inj h
    simp only [Bool.and_eq_true] at c
    obtain ⟨⟨c1, c2⟩, c3⟩ := c
    have hjp : jpP L := jpB_iff.mp c2
    have c1' := inB_iff.mp c1
    refine ⟨by rw [c3, c1]; rfl, ?_⟩
    have hlen : (joL L).length = mnL L L.length := by simp [joL]
    apply List.ext_getElem
    · simp [phL]
    · intro r h1 h2
      simp only [phL, List.getElem_map, List.getElem_range]
      have hL : L[r] = rd_L2 L r := by unfold rd_L2; simp [h2]
      have hln := hjp r h2
      rw [hL]
      apply List.ext_getElem
      · rw [dropL_len, hlen]; exact hln.symm
      · intro j h3 h4
        rw [dropL_len, hlen] at h3
        simp only [dropL, List.getElem_map, List.getElem_range]
        have hi := (dcnt_lt (show 0 < L.length by omega)).mp h3
        unfold joL
        rw [rd_map _ hi]
        have e1 : (r + j * L.length) % L.length = r := by rw [Nat.add_mul_mod_self_right, Nat.mod_eq_of_lt h2]
        have e2 : (r + j * L.length) / L.length = j := by rw [Nat.add_mul_div_right _ _ (by omega), Nat.div_eq_of_lt h2]; omega
        rw [e1, e2, rd_lt h4]
  · rw [if_neg c] at h; simp at h
theorem iRows_loop (a b : List (List Int)) (hl : a.length = b.length) (hb : a.length ≤ 1000) (hr : ∀ r, lnL a r ≤ 1000) : ∀ (d i : Nat), i + d = a.length → (∀ r, i ≤ r → r < a.length → rd_L2 a r = rd_L2 b r) → Evt (fun k => laws_iRows.l0 k a b a.length i) true
  | 0, i, hd, h => Evt.step (h := fun _ => some true) (fun k => by simp only [laws_iRows.l0]; rw [if_neg (by omega)]) (Evt.ret _)
  | d + 1, i, hd, h => by
    have ih := iRows_loop a b hl hb hr d (i + 1) (by omega) (fun r h1 h2 => h r (by omega) h2)
    have he := h i (Nat.le_refl _) (by omega)
    have hi := hr i
    unfold lnL at hi
    have e : wrap64 ((i : Int) + 1) = ((i + 1 : Nat) : Int) := by rw [w64 (by omega) (by omega)]; rfl
    refine Evt.step (fun k => by simp only [laws_iRows.l0]; rw [e, if_pos (by clear e; omega), if_pos (by clear e; omega), if_pos (by clear e; omega), if_pos (by clear e; omega), ← he]) ?_
    exact Evt.bind (iSame_same _ (by omega)) (Evt.pos rfl ih)
theorem iRows_same (a : List (List Int)) (hb : a.length ≤ 1000) (hr : ∀ r, lnL a r ≤ 1000) : Evt (fun k => laws_iRows.f k a a) true := by
  unfold laws_iRows.f
  exact Evt.pos rfl (iRows_loop a a rfl hb hr a.length 0 (by omega) (fun _ _ _ => rfl))
theorem phR_few (h : List Int) (p : Int) : (phR h p).1.length ≤ 1000 ∧ ∀ r, lnL (phR h p).1 r ≤ 1000 := by
  unfold phR
  by_cases c : (wei h && inB p 1 8) = true
  · rw [if_pos c]
    rw [Bool.and_eq_true] at c
    have g := wei_iff.mp c.1
    have g2 := inB_iff.mp c.2
    refine ⟨by rw [phL_len]; omega, fun r => ?_⟩
    by_cases hr : r < p.toNat
    · show lnL (phL h p.toNat) r ≤ 1000
      rw [lnL_ph hr]; have := dcnt_le (m := h.length) (r := r) (p := p.toNat) (by omega); omega
    · show (rd_L2 (phL h p.toNat) r).length ≤ 1000
      unfold rd_L2
      rw [List.getD_eq_getElem?_getD, List.getElem?_eq_none (by rw [phL_len]; omega)]; simp
  · rw [if_neg c]; exact ⟨by simp, fun r => by simp [lnL, rd_L2]⟩
def tb1 (s : List Int) (j : Nat) : Int := (rd s ((2 * j : Nat) : Int) + rd s ((2 * j + 1 : Nat) : Int)) / 2
def tb2 (s : List Int) (j : Nat) : Int := rd s ((2 * j : Nat) : Int) - rd s ((2 * j + 1 : Nat) : Int)
def tb1L (s : List Int) : List Int := (List.range (s.length / 2)).map (tb1 s)
def tb2L (s : List Int) : List Int := (List.range (s.length / 2)).map (tb2 s)
def tbB (s : List Int) : Bool := sig s && decide (s.length % 2 = 0) && sig (tb2L s)
def tbR (s : List Int) : List Int × List Int × Bool := if tbB s = true then (tb1L s, tb2L s, true) else ([], [], false)
theorem shG_one (x : Int) : shG x 1 0 = x / 2 := by
  unfold shG; rw [if_neg (by omega), if_neg (by omega)]; rfl
theorem impl_tb_loop {s : List Int} (hl : s.length ≤ 64) (hs : ∀ x ∈ s, -100000 ≤ x ∧ x ≤ 100000) (he : s.length % 2 = 0) : ∀ (d j : Nat), j + d = s.length / 2 → Evt (fun k => impl_TwoBands.l0 k s ((List.range j).map (tb1 s)) ((List.range j).map (tb2 s)) ((2 * j : Nat) : Int)) (if sig (tb2L s) = true then (tb1L s, tb2L s, true) else ([], [], false))
  | 0, j, hd => by
    have hj : j = s.length / 2 := by omega
    subst hj
    refine Evt.step (fun k => by simp only [impl_TwoBands.l0]; rw [if_neg (by omega)]) ?_
    refine Evt.bindp (isSignal_val _) ?_
    by_cases h : sig (tb2L s) = true
    · rw [if_pos h]; exact Evt.pos h (Evt.ret _)
    · rw [if_neg h]; exact Evt.neg h (Evt.ret _)
  | d + 1, j, hd => by
    have ih := impl_tb_loop hl hs he d (j + 1) (by omega)
    have a := hs _ (rd_mem (l := s) (i := ((2 * j : Nat) : Int)) (by omega) (by omega))
    have b := hs _ (rd_mem (l := s) (i := ((2 * j + 1 : Nat) : Int)) (by omega) (by omega))
    have c1 : ((2 * j : Nat) : Int) < (s.length : Int) := by omega
    have c2 : 0 ≤ ((2 * j : Nat) : Int) := by omega
    have c3 : 0 ≤ ((2 * j + 1 : Nat) : Int) := by omega
    have c4 : ((2 * j + 1 : Nat) : Int) < (s.length : Int) := by omega
    have c5 : ((List.range j).map (tb1 s)).length + ([(rd s ((2 * j : Nat) : Int) + rd s ((2 * j + 1 : Nat) : Int)) / 2] : List Int).length < 17592186044416 := by simp; omega
    have c6 : ((List.range j).map (tb2 s)).length + ([rd s ((2 * j : Nat) : Int) - rd s ((2 * j + 1 : Nat) : Int)] : List Int).length < 17592186044416 := by simp; omega
    have c7 : ((List.range j).map (tb1 s)).length < 17592186044416 := by simp; omega
    have c8 : ((List.range j).map (tb2 s)).length < 17592186044416 := by simp; omega
    have e1 : wrap64 (((2 * j : Nat) : Int) + 1) = ((2 * j + 1 : Nat) : Int) := by clear c5 c6; rw [w64 (by omega) (by omega)]; rfl
    have e2 : wrap64 (((2 * j : Nat) : Int) + 2) = ((2 * (j + 1) : Nat) : Int) := by clear e1 c5 c6; rw [w64 (by omega) (by omega)]; omega
    have e3 : wrap64 (rd s ((2 * j : Nat) : Int) + rd s ((2 * j + 1 : Nat) : Int)) = rd s ((2 * j : Nat) : Int) + rd s ((2 * j + 1 : Nat) : Int) := by clear e1 e2 c5 c6; exact w64 (by omega) (by omega)
    have e4 : wrap64 (rd s ((2 * j : Nat) : Int) - rd s ((2 * j + 1 : Nat) : Int)) = rd s ((2 * j : Nat) : Int) - rd s ((2 * j + 1 : Nat) : Int) := by clear e1 e2 e3 c5 c6; exact w64 (by omega) (by omega)
    (refine Evt.step (fun k => ?_) ih; simp only [impl_TwoBands.l0, Option.bind_some]; rw [e1, e2, e3, e4, if_pos c1, if_pos c2, if_pos c3, if_pos c4, if_pos c5, if_pos c6, ← range_snoc (tb1 s) j, ← range_snoc (tb2 s) j]; rfl)
theorem spec_tb_loop {s : List Int} (hl : s.length ≤ 64) (hs : ∀ x ∈ s, -100000 ≤ x ∧ x ≤ 100000) (he : s.length % 2 = 0) : ∀ (d j : Nat), j + d = s.length / 2 → Evt (fun k => spec_TwoBands.l0 k s ((List.range j).map (tb1 s)) ((List.range j).map (tb2 s)) ((2 * j : Nat) : Int)) (if sig (tb2L s) = true then (tb1L s, tb2L s, true) else ([], [], false))
  | 0, j, hd => by
    have hj : j = s.length / 2 := by omega
    subst hj
    refine Evt.step (fun k => by simp only [spec_TwoBands.l0]; rw [if_neg (by omega)]) ?_
    refine Evt.bind (wdSignal_val _) ?_
    by_cases h : sig (tb2L s) = true
    · rw [if_pos h]; exact Evt.pos h (Evt.ret _)
    · rw [if_neg h]; exact Evt.neg h (Evt.ret _)
  | d + 1, j, hd => by
    have ih := spec_tb_loop hl hs he d (j + 1) (by omega)
    have a := hs _ (rd_mem (l := s) (i := ((2 * j : Nat) : Int)) (by omega) (by omega))
    have b := hs _ (rd_mem (l := s) (i := ((2 * j + 1 : Nat) : Int)) (by omega) (by omega))
    have c1 : ((2 * j : Nat) : Int) < (s.length : Int) := by omega
    have c2 : 0 ≤ ((2 * j : Nat) : Int) := by omega
    have c3 : 0 ≤ ((2 * j + 1 : Nat) : Int) := by omega
    have c4 : ((2 * j + 1 : Nat) : Int) < (s.length : Int) := by omega
    have c5 : ((List.range j).map (tb1 s)).length + ([(rd s ((2 * j : Nat) : Int) + rd s ((2 * j + 1 : Nat) : Int)) / 2] : List Int).length < 17592186044416 := by simp; omega
    have c6 : ((List.range j).map (tb2 s)).length + ([rd s ((2 * j : Nat) : Int) - rd s ((2 * j + 1 : Nat) : Int)] : List Int).length < 17592186044416 := by simp; omega
    have c7 : ((List.range j).map (tb1 s)).length < 17592186044416 := by simp; omega
    have c8 : ((List.range j).map (tb2 s)).length < 17592186044416 := by simp; omega
    have e1 : wrap64 (((2 * j : Nat) : Int) + 1) = ((2 * j + 1 : Nat) : Int) := by clear c5 c6; rw [w64 (by omega) (by omega)]; rfl
    have e2 : wrap64 (((2 * j : Nat) : Int) + 2) = ((2 * (j + 1) : Nat) : Int) := by clear e1 c5 c6; rw [w64 (by omega) (by omega)]; omega
    have e3 : wrap64 (rd s ((2 * j : Nat) : Int) + rd s ((2 * j + 1 : Nat) : Int)) = rd s ((2 * j : Nat) : Int) + rd s ((2 * j + 1 : Nat) : Int) := by clear e1 e2 c5 c6; exact w64 (by omega) (by omega)
    have e4 : wrap64 (rd s ((2 * j : Nat) : Int) - rd s ((2 * j + 1 : Nat) : Int)) = rd s ((2 * j : Nat) : Int) - rd s ((2 * j + 1 : Nat) : Int) := by clear e1 e2 e3 c5 c6; exact w64 (by omega) (by omega)
    (refine Evt.step (fun k => by simp only [spec_TwoBands.l0]; rw [e1, e2, e3, e4, if_pos c1, if_pos c2, if_pos c3, if_pos c4]) ?_; refine Evt.bind (wdShift_val (by decide) (by decide) (by omega) (by omega)) (Evt.pos c7 (Evt.pos c8 ?_)); rw [shG_one]; rw [← range_snoc (tb1 s) j, ← range_snoc (tb2 s) j] at ih; exact ih)
theorem TwoBands_val (s : List Int) : Evt (fun k => impl_TwoBands.f k s) (tbR s) := by
  have no : Evt (fun k => impl_TwoBands.j0 k s true) ([], [], false) := Evt.step (fun k => by simp only [impl_TwoBands.j0]; rw [if_pos trivial]) (Evt.ret _)
  unfold impl_TwoBands.f tbR
  refine Evt.bindp (isSignal_val _) ?_
  by_cases h1 : sig s = true
  · have g := sig_iff.mp h1
    refine Evt.pos h1 ?_
    by_cases h2 : s.length % 2 = 0
    · have et : ((fun x:Int => x % 2 != 0) (s.length : Int)) = false := by simp; omega
      have e : tbB s = sig (tb2L s) := by unfold tbB; rw [h1, decide_eq_true h2]; rfl
      show Evt (fun k => impl_TwoBands.j0 k s ((fun x:Int => x % 2 != 0) (s.length : Int))) _
      rw [et, e]
      refine Evt.step (fun k => by simp only [impl_TwoBands.j0]; rw [if_neg (by simp)]) ?_
      exact impl_tb_loop g.1 g.2 h2 (s.length / 2) 0 (by omega)
    · have et : ((fun x:Int => x % 2 != 0) (s.length : Int)) = true := by simp; omega
      have e : tbB s = false := by unfold tbB; rw [decide_eq_false h2]; simp
      show Evt (fun k => impl_TwoBands.j0 k s ((fun x:Int => x % 2 != 0) (s.length : Int))) _
      rw [et, e]; exact no
  · have e : tbB s = false := by unfold tbB; rw [Bool.eq_false_iff.mpr h1]; rfl
    rw [e]; exact Evt.neg h1 no
theorem specTwoBands_val (s : List Int) : Evt (fun k => spec_TwoBands.f k s) (tbR s) := by
  have no : Evt (fun k => spec_TwoBands.j0 k s true) ([], [], false) := Evt.step (fun k => by simp only [spec_TwoBands.j0]; rw [if_pos trivial]) (Evt.ret _)
  unfold spec_TwoBands.f tbR
  refine Evt.bind (wdSignal_val _) ?_
  by_cases h1 : sig s = true
  · have g := sig_iff.mp h1
    refine Evt.pos h1 ?_
    by_cases h2 : s.length % 2 = 0
    · have et : ((fun x:Int => x % 2 == 1) (s.length : Int)) = false := by simp; omega
      have e : tbB s = sig (tb2L s) := by unfold tbB; rw [h1, decide_eq_true h2]; rfl
      show Evt (fun k => spec_TwoBands.j0 k s ((fun x:Int => x % 2 == 1) (s.length : Int))) _
      rw [et, e]
      refine Evt.step (fun k => by simp only [spec_TwoBands.j0]; rw [if_neg (by simp)]) ?_
      exact spec_tb_loop g.1 g.2 h2 (s.length / 2) 0 (by omega)
    · have et : ((fun x:Int => x % 2 == 1) (s.length : Int)) = true := by simp; omega
      have e : tbB s = false := by unfold tbB; rw [decide_eq_false h2]; simp
      show Evt (fun k => spec_TwoBands.j0 k s ((fun x:Int => x % 2 == 1) (s.length : Int))) _
      rw [et, e]; exact no
  · have e : tbB s = false := by unfold tbB; rw [Bool.eq_false_iff.mpr h1]; rfl
    rw [e]; exact Evt.neg h1 no
def jbU (a b : List Int) (i : Nat) : Int := rd a i + (rd b i + 1) / 2
def jbF (a b : List Int) (i : Nat) : Int := if i % 2 = 0 then jbU a b (i / 2) else jbU a b (i / 2) - rd b ((i / 2 : Nat) : Int)
def jbL (a b : List Int) : List Int := (List.range (2 * a.length)).map (jbF a b)
def jbB (a b : List Int) : Bool := sig a && sig b && decide (a.length = b.length)
def jbR (a b : List Int) : List Int × Bool := if jbB a b = true then told (jbL a b) else ([], false)
theorem jb_snoc (a b : List Int) (i : Nat) : (List.range (2 * i)).map (jbF a b) ++ [rd a i + (rd b i + 1) / 2, rd a i + (rd b i + 1) / 2 - rd b i] = (List.range (2 * (i + 1))).map (jbF a b) := by
  have e1 : jbF a b (2 * i) = rd a i + (rd b i + 1) / 2 := by
    unfold jbF jbU; rw [if_pos (by omega), show 2 * i / 2 = i by omega]
  have e2 : jbF a b (2 * i + 1) = rd a i + (rd b i + 1) / 2 - rd b i := by
    unfold jbF jbU; rw [if_neg (by omega), show (2 * i + 1) / 2 = i by omega]
  rw [show 2 * (i + 1) = 2 * i + 1 + 1 by omega, ← range_snoc, ← range_snoc, e1, e2, List.append_assoc]; rfl
theorem impl_jb_loop {a b : List Int} (hl : a.length ≤ 64) (hab : a.length = b.length) (ha : ∀ x ∈ a, -100000 ≤ x ∧ x ≤ 100000) (hb : ∀ x ∈ b, -100000 ≤ x ∧ x ≤ 100000) : ∀ (d i : Nat), i + d = a.length → Evt (fun k => impl_JoinBands.l0 k b ((List.range (2 * i)).map (jbF a b)) a a.length i) (told (jbL a b))
  | 0, i, hd => by
    have hi : i = a.length := by omega
    subst hi
    refine Evt.step (fun k => by simp only [impl_JoinBands.l0]; rw [if_neg (by omega)]) ?_
    exact (Evt.bindp (told_val _) (Evt.ret _))
  | d + 1, i, hd => by
    have ih := impl_jb_loop hl hab ha hb d (i + 1) (by omega)
    have ga := ha _ (rd_mem (l := a) (i := (i : Int)) (by omega) (by omega))
    have gb := hb _ (rd_mem (l := b) (i := (i : Int)) (by omega) (by omega))
    have c1 : (i : Int) < (a.length : Int) := by omega
    have c2 : 0 ≤ (i : Int) := by omega
    have c3 : (i : Int) < (b.length : Int) := by omega
    have c5 : ((List.range (2 * i)).map (jbF a b)).length + ([rd a i + (rd b i + 1) / 2, rd a i + (rd b i + 1) / 2 - rd b i] : List Int).length < 17592186044416 := by simp; omega
    have e1 : wrap64 ((i : Int) + 1) = ((i + 1 : Nat) : Int) := by clear c5; rw [w64 (by omega) (by omega)]; rfl
    have e2 : wrap64 (rd b i + 1) = rd b i + 1 := by clear e1 c5; exact w64 (by omega) (by omega)
    have e3 : wrap64 (rd a i + (rd b i + 1) / 2) = rd a i + (rd b i + 1) / 2 := by clear e1 e2 c5; exact w64 (by omega) (by omega)
    have e4 : wrap64 (rd a i + (rd b i + 1) / 2 - rd b i) = rd a i + (rd b i + 1) / 2 - rd b i := by clear e1 e2 e3 c5; exact w64 (by omega) (by omega)
    have e5 := jb_snoc a b i
    (refine Evt.step (fun k => ?_) ih; simp only [impl_JoinBands.l0, Option.bind_some]; rw [e1, e2, e3, e4, if_pos c1, if_pos c2, if_pos c1, if_pos c3, if_pos c5, e5])
theorem spec_jb_loop {a b : List Int} (hl : a.length ≤ 64) (hab : a.length = b.length) (ha : ∀ x ∈ a, -100000 ≤ x ∧ x ≤ 100000) (hb : ∀ x ∈ b, -100000 ≤ x ∧ x ≤ 100000) : ∀ (d i : Nat), i + d = a.length → Evt (fun k => spec_JoinBands.l0 k b ((List.range (2 * i)).map (jbF a b)) a a.length i) (told (jbL a b))
  | 0, i, hd => by
    have hi : i = a.length := by omega
    subst hi
    refine Evt.step (fun k => by simp only [spec_JoinBands.l0]; rw [if_neg (by omega)]) ?_
    exact (Evt.bind (wdIf_val _) (Evt.ret _))
  | d + 1, i, hd => by
    have ih := spec_jb_loop hl hab ha hb d (i + 1) (by omega)
    have ga := ha _ (rd_mem (l := a) (i := (i : Int)) (by omega) (by omega))
    have gb := hb _ (rd_mem (l := b) (i := (i : Int)) (by omega) (by omega))
    have c1 : (i : Int) < (a.length : Int) := by omega
    have c2 : 0 ≤ (i : Int) := by omega
    have c3 : (i : Int) < (b.length : Int) := by omega
    have c5 : ((List.range (2 * i)).map (jbF a b)).length + ([rd a i + (rd b i + 1) / 2, rd a i + (rd b i + 1) / 2 - rd b i] : List Int).length < 17592186044416 := by simp; omega
    have e1 : wrap64 ((i : Int) + 1) = ((i + 1 : Nat) : Int) := by clear c5; rw [w64 (by omega) (by omega)]; rfl
    have e2 : wrap64 (rd b i + 1) = rd b i + 1 := by clear e1 c5; exact w64 (by omega) (by omega)
    have e3 : wrap64 (rd a i + (rd b i + 1) / 2) = rd a i + (rd b i + 1) / 2 := by clear e1 e2 c5; exact w64 (by omega) (by omega)
    have e4 : wrap64 (rd a i + (rd b i + 1) / 2 - rd b i) = rd a i + (rd b i + 1) / 2 - rd b i := by clear e1 e2 e3 c5; exact w64 (by omega) (by omega)
    have e5 := jb_snoc a b i
    (refine Evt.step (fun k => by simp only [spec_JoinBands.l0]; rw [e1, e2, if_pos c1, if_pos c2, if_pos c1, if_pos c3]) ?_; refine Evt.bind (wdShift_val (by decide) (by decide) (by omega) (by omega)) ?_; rw [shG_one]; simp only [Option.bind_some]; rw [e3, e4, e5]; exact Evt.pos c5 ih)
theorem JoinBands_val (a b : List Int) : Evt (fun k => impl_JoinBands.f k a b) (jbR a b) := by
  have no : Evt (fun k => impl_JoinBands.j0 k a b true) ([], false) := Evt.step (fun k => by simp only [impl_JoinBands.j0]; rw [if_pos trivial]) (Evt.ret _)
  unfold impl_JoinBands.f jbR
  refine Evt.bindp (isSignal_val _) ?_
  by_cases h1 : sig a = true
  · refine Evt.pos h1 (Evt.bindp (isSignal_val _) ?_)
    by_cases h2 : sig b = true
    · refine Evt.pos h2 ?_
      have g1 := sig_iff.mp h1
      have g2 := sig_iff.mp h2
      by_cases h3 : a.length = b.length
      · have et : ((a.length : Int) != (b.length : Int)) = false := by simp; omega
        have e : jbB a b = true := by unfold jbB; rw [h1, h2, decide_eq_true h3]; rfl
        rw [et, if_pos e]
        refine Evt.step (fun k => by simp only [impl_JoinBands.j0]; rw [if_neg (by simp)]) ?_
        exact impl_jb_loop g1.1 h3 g1.2 g2.2 a.length 0 (by omega)
      · have et : ((a.length : Int) != (b.length : Int)) = true := by simp; omega
        have e : jbB a b = false := by unfold jbB; rw [decide_eq_false h3]; simp
        rw [et, e]; exact no
    · have e : jbB a b = false := by unfold jbB; rw [Bool.eq_false_iff.mpr h2]; simp
      rw [e]; exact Evt.neg h2 no
  · have e : jbB a b = false := by unfold jbB; rw [Bool.eq_false_iff.mpr h1]; rfl
    rw [e]; exact Evt.neg h1 no
theorem specJoinBands_val (a b : List Int) : Evt (fun k => spec_JoinBands.f k a b) (jbR a b) := by
  have no : Evt (fun k => spec_JoinBands.j0 k a b true) ([], false) := Evt.step (fun k => by simp only [spec_JoinBands.j0]; rw [if_pos trivial]) (Evt.ret _)
  unfold spec_JoinBands.f jbR
  refine Evt.bind (wdSignal_val _) ?_
  by_cases h1 : sig a = true
  · refine Evt.pos h1 (Evt.bind (wdSignal_val _) ?_)
    by_cases h2 : sig b = true
    · refine Evt.pos h2 ?_
      have g1 := sig_iff.mp h1
      have g2 := sig_iff.mp h2
      by_cases h3 : a.length = b.length
      · have et : ((a.length : Int) != (b.length : Int)) = false := by simp; omega
        have e : jbB a b = true := by unfold jbB; rw [h1, h2, decide_eq_true h3]; rfl
        rw [et, if_pos e]
        refine Evt.step (fun k => by simp only [spec_JoinBands.j0]; rw [if_neg (by simp)]) ?_
        exact spec_jb_loop g1.1 h3 g1.2 g2.2 a.length 0 (by omega)
      · have et : ((a.length : Int) != (b.length : Int)) = true := by simp; omega
        have e : jbB a b = false := by unfold jbB; rw [decide_eq_false h3]; simp
        rw [et, e]; exact no
    · have e : jbB a b = false := by unfold jbB; rw [Bool.eq_false_iff.mpr h2]; simp
      rw [e]; exact Evt.neg h2 no
  · have e : jbB a b = false := by unfold jbB; rw [Bool.eq_false_iff.mpr h1]; rfl
    rw [e]; exact Evt.neg h1 no
theorem tb_jb {s : List Int} (h : tbB s = true) : jbR (tb1L s) (tb2L s) = (s, true) := by
  unfold tbB at h
  simp only [Bool.and_eq_true, decide_eq_true_eq] at h
  obtain ⟨⟨h1, h2⟩, h3⟩ := h
  have g := sig_iff.mp h1
  have e1 : sig (tb1L s) = true := sig_iff.mpr ⟨by simp [tb1L]; omega, fun x hx => by
    obtain ⟨j, hj, rfl⟩ := List.mem_map.mp hx
    have hj := List.mem_range.mp hj
    have a := g.2 _ (rd_mem (l := s) (i := ((2 * j : Nat) : Int)) (by omega) (by omega))
    have b := g.2 _ (rd_mem (l := s) (i := ((2 * j + 1 : Nat) : Int)) (by omega) (by omega))
    unfold tb1; omega⟩
  have e2 : jbB (tb1L s) (tb2L s) = true := by unfold jbB; rw [e1, h3]; simp [tb1L, tb2L]
  have e3 : jbL (tb1L s) (tb2L s) = s := by
    apply List.ext_getElem
    · simp [jbL, tb1L]; omega
    · intro i hi1 hi2
      have hi : i / 2 < s.length / 2 := by omega
      have r1 : rd (tb1L s) ((i / 2 : Nat) : Int) = tb1 s (i / 2) := rd_map _ hi
      have r2 : rd (tb2L s) ((i / 2 : Nat) : Int) = tb2 s (i / 2) := rd_map _ hi
      simp only [jbL, List.getElem_map, List.getElem_range, jbF, jbU]
      rw [r1, r2, ← rd_lt hi2]
      unfold tb1 tb2
      by_cases c : i % 2 = 0
      · rw [if_pos c, show 2 * (i / 2) = i by omega]; omega
      · rw [if_neg c, show 2 * (i / 2) + 1 = i by omega]; omega
  unfold jbR told
  rw [if_pos e2, e3, if_pos h1]
theorem jb_tb {a b c : List Int} (h : jbR a b = (c, true)) : tbR c = (a, b, true) := by
  unfold jbR told at h
  by_cases h1 : jbB a b = true
  · rw [if_pos h1] at h
    by_cases h2 : sig (jbL a b) = true
    · rw [if_pos h2] at h
      obtain ⟨rfl, _⟩ := Prod.mk.inj h
      unfold jbB at h1
      simp only [Bool.and_eq_true, decide_eq_true_eq] at h1
      obtain ⟨⟨s1, s2⟩, h3⟩ := h1
      have hl : (jbL a b).length = 2 * a.length := by simp [jbL]
      have r : ∀ i, i < 2 * a.length → rd (jbL a b) (i : Int) = jbF a b i := fun i hi => rd_map _ hi
      have e1 : tb1L (jbL a b) = a := by
        apply List.ext_getElem
        · simp [tb1L, hl]
        · intro i i1 i2
          simp only [tb1L, List.getElem_map, List.getElem_range, tb1]
          rw [r _ (by omega), r _ (by omega), ← rd_lt i2]
          unfold jbF jbU
          rw [if_pos (by omega), if_neg (by omega), show 2 * i / 2 = i by omega, show (2 * i + 1) / 2 = i by omega]
          omega
      have e2 : tb2L (jbL a b) = b := by
        apply List.ext_getElem
        · simp [tb2L, hl, h3]
        · intro i i1 i2
          simp only [tb2L, List.getElem_map, List.getElem_range, tb2]
          rw [r _ (by omega), r _ (by omega), ← rd_lt i2]
          unfold jbF jbU
          rw [if_pos (by omega), if_neg (by omega), show 2 * i / 2 = i by omega, show (2 * i + 1) / 2 = i by omega]
          omega
      have e3 : tbB (jbL a b) = true := by unfold tbB; rw [h2, e2, s2, hl, decide_eq_true (by omega)]; rfl
      unfold tbR
      rw [if_pos e3, e1, e2]
    · rw [if_neg h2] at h; simp at h
  · rw [if_neg h1] at h; simp at h
theorem tbR_len (s : List Int) : (tbR s).1.length ≤ 1000000 ∧ (tbR s).2.1.length ≤ 1000000 := by
  unfold tbR
  by_cases h : tbB s = true
  · rw [if_pos h]
    unfold tbB at h
    simp only [Bool.and_eq_true] at h
    have := (sig_iff.mp h.1.1).1
    simp [tb1L, tb2L]; omega
  · rw [if_neg h]; simp
theorem told_len (l : List Int) : (told l).1.length ≤ 1000000 := by
  unfold told
  by_cases h : sig l = true
  · rw [if_pos h]; have := (sig_iff.mp h).1; show l.length ≤ _; omega
  · rw [if_neg h]; simp
theorem jbR_len (a b : List Int) : (jbR a b).1.length ≤ 1000000 := by
  unfold jbR; split
  · exact told_len _
  · simp
theorem DropSamples_val {l : List Int} {q : Nat} (hs : sig l = true) (h1 : 1 ≤ q) (h8 : q ≤ 8) : Evt (fun k => impl_DropSamples.f k l q 0) (dropL l q 0, true) := by
  have g := sig_iff.mp hs
  unfold impl_DropSamples.f
  refine Evt.bindp (isSignal_val l) (Evt.pos hs (Evt.bindp (isRate_val q) (Evt.pos (inB_iff.mpr ⟨by omega, by omega⟩) (Evt.bindp (in_val _ _ _) (Evt.pos ?_ ?_)))))
  · rw [w64 (by omega) (by omega)]; exact inB_iff.mpr ⟨by omega, by omega⟩
  · exact Evt.bind (drop_val (p := q) (r := 0) l (by omega) (by omega) (by decide) (by omega)) (Evt.ret _)
theorem rat_mk {p q : Nat} (p1 : 1 ≤ p) (p8 : p ≤ 8) (q1 : 1 ≤ q) (q8 : q ≤ 8) : ratB p q = true := by
  unfold ratB; rw [inB_iff.mpr ⟨by omega, by omega⟩, inB_iff.mpr ⟨by omega, by omega⟩]; rfl
theorem lengthAfter_val {n p q : Nat} (h : n * p ≤ 64) (hq1 : 1 ≤ q) (hq8 : q ≤ 8) : impl_lengthAfter.f (n : Int) p q = some ((dcnt (n * p) 0 q : Nat) : Int) := by
  unfold impl_lengthAfter.f dcnt
  rw [← Int.natCast_mul]
  generalize n * p = z at *
  have e1 : wrap64 (wrap64 (wrap64 (z : Int) + q) - 1) = ((z - 0 + (q - 1) : Nat) : Int) := by
    rw [w64 (x := (z : Int)) (by omega) (by omega), w64 (x := (z : Int) + q) (by omega) (by omega), w64 (by omega) (by omega)]; omega
  rw [if_neg (by omega), e1, div_cast]
  clear e1
  have := Nat.div_le_self (z - 0 + (q - 1)) q
  generalize (z - 0 + (q - 1)) / q = y at *
  rw [w64 (by omega) (by omega)]
theorem LengthAfter_val {h s : List Int} {p q : Nat} (U : UpS h s p q) : impl_LengthAfter.f (s.length : Int) p q = some (((upL h s p q).length : Int), true) := by
  unfold impl_LengthAfter.f
  rw [in_val, inB_iff.mpr ⟨by omega, by have := U.len; omega⟩]
  simp only [Option.bind_some, if_true]
  rw [isRatio_val, rat_mk U.p1 U.p8 U.q1 U.q8]
  simp only [Option.bind_some, if_true]
  rw [lengthAfter_val U.room U.q1 U.q8, upL_len]; rfl
theorem up_mk {h s : List Int} {p q : Nat} (U : UpS h s p q) : upB h s p q = true := by
  unfold upB
  rw [wei_iff.mpr ⟨⟨U.h1, U.h9⟩, U.hw⟩, rat_mk U.p1 U.p8 U.q1 U.q8, sig_iff.mpr ⟨U.len, U.hs⟩, ← Int.natCast_mul, decide_eq_true (by have := U.room; omega)]; rfl
theorem upR_mk {h s : List Int} {p q : Nat} (U : UpS h s p q) : upR h s p q = told (upL h s p q) := by unfold upR; rw [if_pos (up_mk U), Int.toNat_natCast, Int.toNat_natCast]
theorem pr_mk {h s : List Int} {p q : Nat} (U : UpS h s p q) : prB h s.length p q = true := by
  unfold prB
  rw [wei_iff.mpr ⟨⟨U.h1, U.h9⟩, U.hw⟩, inB_iff.mpr ⟨by omega, by have := U.len; omega⟩, rat_mk U.p1 U.p8 U.q1 U.q8, ← Int.natCast_mul, decide_eq_true (by have := U.room; omega)]; rfl
theorem UpS.one {h s : List Int} {p q : Nat} (U : UpS h s p q) : UpS h s p 1 := ⟨U.h1, U.h9, U.hw, U.len, U.hs, U.p1, U.p8, by omega, by omega, U.room⟩
theorem dcnt_one (m : Nat) : dcnt m 0 1 = m := by unfold dcnt; simp
theorem upL_one (h s : List Int) (p : Nat) : upL h s p 1 = (List.range (s.length * p)).map (fun j : Nat => upG h s p j) := by
  unfold upL; rw [dcnt_one]; simp only [Nat.mul_one]
theorem drop_upL {h s : List Int} {p q : Nat} (U : UpS h s p q) : dropL (upL h s p 1) q 0 = upL h s p q := by rw [upL_one, drop_up U]
theorem stfL_one (s : List Int) : stfL s 1 = s := by
  apply List.ext_getElem
  · rw [stfL_len]; omega
  · intro i h1 h2
    simp only [stfL, List.getElem_map, List.getElem_range, stF]
    rw [if_pos (by omega), Nat.div_one, rd_lt h2]
theorem short1_val {h s : List Int} {q : Nat} (U : UpS h s 1 q) : Evt (fun k => impl_FilterShort.f k h s) (told (upL h s 1 1)) := by
  have e0 : upL h s 1 1 = (List.range s.length).map (fun j : Nat => cv h s j h.length) := by
    rw [upL_one, Nat.mul_one]; unfold upG; rw [stfL_one]
  rw [e0]
  unfold impl_FilterShort.f
  refine Evt.bindp (isWeights_val h) (Evt.pos (wei_iff.mpr ⟨⟨U.h1, U.h9⟩, U.hw⟩) (Evt.bindp (isSignal_val s) ?_))
  rw [sig_iff.mpr ⟨U.len, U.hs⟩]
  refine Evt.step (fun q => by simp only [impl_FilterShort.j0]; rw [if_neg (by simp)]) ?_
  have e := ans_take h s U.h1
  have hlen : s.length ≤ (if s.length = 0 then [] else ans h s).length := by
    have := congrArg List.length e
    simp only [List.length_take, List.length_map, List.length_range] at this
    omega
  refine Evt.bind (answer_val h s U.hw U.hs U.h1 (by have := U.h9; omega) (by have := U.len; omega)) (Evt.pos (by omega) (Evt.pos (by omega) ?_))
  rw [Int.toNat_natCast, e, told_val]
  exact Evt.ret _
theorem pd_pb {h s : List Int} {p q : Nat} (U : UpS h s p q) : (pdR h s.length p q).2 = true ∧ (pbR h s.length p q).2 = true ∧ ¬ (pbR h s.length p q).1 > (pdR h s.length p q).1 := by
  unfold pdR pbR
  rw [if_pos (pr_mk U), if_pos (pr_mk U)]
  refine ⟨rfl, rfl, ?_⟩
  show ¬ ((pcN h.length (p : Int).toNat (q : Int).toNat (dcnt ((s.length : Int).toNat * (p : Int).toNat) 0 (q : Int).toNat) : Nat) : Int) > ((pdN h.length ((s.length : Int).toNat * (p : Int).toNat) : Nat) : Int)
  rw [Int.toNat_natCast, Int.toNat_natCast, Int.toNat_natCast]
  have := few_le h.length p q (s.length * p) (by have := U.p1; omega) (by have := U.q1; omega)
  omega
theorem ratio_draw (s : List Int) (p seed : Int) (hs : Bytes s) (h0 : 0 ≤ p) (h1 : p ≤ 100000) : ∃ a b p' seed', spec_l1Cur_ratio.f s p seed = some (a, b, p', seed') ∧ p ≤ p' ∧ p' ≤ p + 6 := by
  obtain ⟨z, p1, s1, e1, g1, g2⟩ := one_some s p seed 12 hs h0 (by omega) (by omega)
  unfold spec_l1Cur_ratio.f
  rw [e1]; simp only [Option.bind_some]
  cases z with
  | true =>
    obtain ⟨x, p2, s2, e2, _, g3, g4⟩ := among_some s p1 s1 [0, 1, 8, 9] hs (by omega) (by omega) (by simp) (by simp)
    obtain ⟨y, p3, s3, e3, _, g5, g6⟩ := among_some s p2 s2 [0, 1, 8, 9] hs (by omega) (by omega) (by simp) (by simp)
    rw [if_pos rfl, e2]; simp only [Option.bind_some]; rw [e3]
    exact ⟨_, _, _, _, rfl, by show p ≤ p3; omega, by show p3 ≤ p + 6; omega⟩
  | false =>
    obtain ⟨x, p2, s2, e2, _, _, g3, g4⟩ := pick_some s p1 s1 4 hs (by omega) (by omega) (by omega)
    obtain ⟨y, p3, s3, e3, _, _, g5, g6⟩ := pick_some s p2 s2 4 hs (by omega) (by omega) (by omega)
    rw [if_neg (by simp), e2]; simp only [Option.bind_some]; rw [e3]
    exact ⟨_, _, _, _, rfl, by show p ≤ p3; omega, by show p3 ≤ p + 6; omega⟩
theorem draw_UpFilterDown (s : List Int) (hs : Bytes s) : ∃ r, Evt (fun k => spec_DrawUpFilterDown.f k s) r := by
  obtain ⟨p, q, p1, s1, e1, g1, g2⟩ := ratio_draw s 0 0 hs (by omega) (by omega)
  obtain ⟨h, p2, s2, e2, _, g3, g4⟩ := weights_some s p1 s1 hs (by omega) (by omega)
  obtain ⟨u, p3, s3, e3, _, g5, g6⟩ := signal_some s p2 s2 10 40 hs (by omega) (by omega) (by omega) (by omega) (by omega) (by omega)
  unfold spec_DrawUpFilterDown.f
  exact ⟨_, Evt.bindp e1 (Evt.bind e2 (Evt.bind e3 (Evt.ret _)))⟩
theorem draw_DownFilter (s : List Int) (hs : Bytes s) : ∃ r, Evt (fun k => spec_DrawDownFilter.f k s) r := by
  obtain ⟨p, q, p1, s1, e1, g1, g2⟩ := ratio_draw s 0 0 hs (by omega) (by omega)
  obtain ⟨h, p2, s2, e2, _, g3, g4⟩ := weights_some s p1 s1 hs (by omega) (by omega)
  obtain ⟨u, p3, s3, e3, _, g5, g6⟩ := signal_some s p2 s2 14 40 hs (by omega) (by omega) (by omega) (by omega) (by omega) (by omega)
  unfold spec_DrawDownFilter.f
  exact ⟨_, Evt.bindp e1 (Evt.bind e2 (Evt.bind e3 (Evt.ret _)))⟩
theorem draw_UpFilter (s : List Int) (hs : Bytes s) : ∃ r, Evt (fun k => spec_DrawUpFilter.f k s) r := by
  obtain ⟨p, q, p1, s1, e1, g1, g2⟩ := ratio_draw s 0 0 hs (by omega) (by omega)
  obtain ⟨h, p2, s2, e2, _, g3, g4⟩ := weights_some s p1 s1 hs (by omega) (by omega)
  obtain ⟨u, p3, s3, e3, _, g5, g6⟩ := signal_some s p2 s2 10 40 hs (by omega) (by omega) (by omega) (by omega) (by omega) (by omega)
  unfold spec_DrawUpFilter.f
  exact ⟨_, Evt.bindp e1 (Evt.bind e2 (Evt.bind e3 (Evt.ret _)))⟩
theorem draw_PhasesOf (s : List Int) (hs : Bytes s) : ∃ r, Evt (fun k => spec_DrawPhasesOf.f k s) r := by
  obtain ⟨p, q, p1, s1, e1, g1, g2⟩ := ratio_draw s 0 0 hs (by omega) (by omega)
  obtain ⟨h, p2, s2, e2, _, g3, g4⟩ := weights_some s p1 s1 hs (by omega) (by omega)
  unfold spec_DrawPhasesOf.f
  exact ⟨_, Evt.bindp e1 (Evt.bind e2 (Evt.ret _))⟩
theorem draw_ProductsDirect (s : List Int) (hs : Bytes s) : ∃ r, Evt (fun k => spec_DrawProductsDirect.f k s) r := by
  obtain ⟨p, q, p1, s1, e1, g1, g2⟩ := ratio_draw s 0 0 hs (by omega) (by omega)
  obtain ⟨h, p2, s2, e2, _, g3, g4⟩ := weights_some s p1 s1 hs (by omega) (by omega)
  obtain ⟨x, p3, s3, e3, _, _, g5, g6⟩ := pick_some s p2 s2 20 hs (by omega) (by omega) (by omega)
  obtain ⟨y, p4, s4, e4, _, _, g7, g8⟩ := pick_some s p3 s3 9 hs (by omega) (by omega) (by omega)
  unfold spec_DrawProductsDirect.f
  exact ⟨_, Evt.bindp e1 (Evt.bind e2 (Evt.bindp e3 (Evt.bindp e4 (Evt.ret _))))⟩
theorem draw_TwoBands (s : List Int) (hs : Bytes s) : ∃ r, Evt (fun k => spec_DrawTwoBands.f k s) r := by
  obtain ⟨u, p1, s1, e1, hf, g1, g2⟩ := signal_some s 0 0 12 50 hs (by omega) (by omega) (by omega) (by omega) (by omega) (by omega)
  obtain ⟨z, p2, s2, e2, g3, g4⟩ := one_some s p1 s1 6 hs (by omega) (by omega) (by omega)
  unfold spec_DrawTwoBands.f
  by_cases c : (u.length : Int) % 2 = 1
  · cases z with
    | true => exact ⟨_, Evt.bind e1 (Evt.pos c (Evt.bindp e2 (Evt.pos rfl (Evt.ret _))))⟩
    | false => exact ⟨_, Evt.bind e1 (Evt.pos c (Evt.bindp e2 (Evt.neg (by simp) (Evt.pos (by show (1 : Int) ≤ (u.length : Int); omega) (Evt.ret _)))))⟩
  · exact ⟨_, Evt.bind e1 (Evt.neg c (Evt.ret _))⟩
theorem jb_draw (s u : List Int) (hs : Bytes s) : ∀ (d i : Nat) (out : List Int) (p seed : Int), 0 ≤ p → p + 2 * d ≤ 10000 → out.length + d ≤ 10000 → i + d = u.length → u.length ≤ 10000 →
    ∃ r, Evt (fun k => spec_DrawJoinBands.l0 k u out u.length i s p seed) r
  | 0, i, out, p, seed, h0, h1, hl, hd, hu => by
    obtain ⟨z, p2, s2, e2, g3, g4⟩ := one_some s p seed 8 hs h0 (by omega) (by omega)
    cases z with
    | true =>
      obtain ⟨v, p3, s3, e3, hf, g1, g2⟩ := signal_some s p2 s2 8 50 hs (by omega) (by omega) (by omega) (by omega) (by omega) (by omega)
      exact ⟨_, Evt.step (fun k => by simp only [spec_DrawJoinBands.l0]; rw [if_neg (by omega), e2]; simp only [Option.bind_some]; rw [if_pos trivial]) (Evt.bind e3 (Evt.ret _))⟩
    | false => exact ⟨_, Evt.step (fun k => by simp only [spec_DrawJoinBands.l0]; rw [if_neg (by omega), e2]; simp only [Option.bind_some]; rw [if_neg (by simp)]) (Evt.ret _)⟩
  | d + 1, i, out, p, seed, h0, h1, hl, hd, hu => by
    obtain ⟨x, p2, s2, e2, _, _, g3, g4⟩ := pick_some s p seed 61 hs h0 (by omega) (by omega)
    obtain ⟨r, hr⟩ := jb_draw s u hs d (i + 1) (out ++ [wrap64 (x - 30)]) p2 s2 (by omega) (by omega) (by simp; omega) (by omega) hu
    have e : wrap64 ((i : Int) + 1) = ((i + 1 : Nat) : Int) := by rw [w64 (by omega) (by omega)]; rfl
    refine ⟨r, Evt.step (fun k => ?_) hr⟩
    simp only [spec_DrawJoinBands.l0]
    rw [e, if_pos (by clear e; omega), e2]; simp only [Option.bind_some]
    rw [if_pos (by clear e; omega)]
theorem draw_JoinBands (s : List Int) (hs : Bytes s) : ∃ r, Evt (fun k => spec_DrawJoinBands.f k s) r := by
  obtain ⟨u, p1, s1, e1, hf, g1, g2⟩ := signal_some s 0 0 8 50 hs (by omega) (by omega) (by omega) (by omega) (by omega) (by omega)
  have := hf.1
  obtain ⟨r, hr⟩ := jb_draw s u hs u.length 0 [] p1 s1 g1 (by omega) (by simp; omega) (by omega) (by omega)
  unfold spec_DrawJoinBands.f
  exact ⟨r, Evt.bind e1 hr⟩
/-- few rows, none of them long -/
def FewRows (L : List (List Int)) : Prop := L.length ≤ 500 ∧ ∀ x ∈ L, x.length ≤ 500
theorem FewRows.ln {L : List (List Int)} (h : FewRows L) (r : Nat) : lnL L r ≤ 1000 := by
  unfold lnL rd_L2
  rw [List.getD_eq_getElem?_getD]
  by_cases c : (r : Int).toNat < L.length
  · rw [List.getElem?_eq_getElem c]
    have := h.2 _ (List.getElem_mem c)
    simp only [Option.getD_some]; omega
  · rw [List.getElem?_eq_none (by omega)]; simp
theorem row_draw (s : List Int) (hs : Bytes s) (L : List (List Int)) (x5 P : Int) (hL : L.length ≤ 500) (hP : P ≤ 800000) (hK : ∀ row p sd, row.length ≤ 10 → 0 ≤ p → p ≤ P → ∃ r p' sd', Evt (fun k => spec_l1Cur_joinable.l0 k (L ++ [row]) (wrap64 (x5 - 1)) s p sd) (r, p', sd') ∧ FewRows r) :
    ∀ (d : Nat) (row : List Int) (p sd : Int), row.length + d ≤ 10 → 0 ≤ p → p + 2 * d ≤ P → ∃ r p' sd', Evt (fun k => spec_l1Cur_joinable.l1 k L x5 row d s p sd) (r, p', sd') ∧ FewRows r
  | 0, row, p, sd, hr, h0, h1 => by
    obtain ⟨r, p', sd', e, g⟩ := hK row p sd (by omega) h0 (by omega)
    exact ⟨r, p', sd', Evt.step (fun k => by simp only [spec_l1Cur_joinable.l1]; rw [if_neg (by omega), if_pos (by omega)]) e, g⟩
  | d + 1, row, p, sd, hr, h0, h1 => by
    obtain ⟨x, p2, s2, e2, _, _, g3, g4⟩ := pick_some s p sd 9 hs h0 (by omega) (by omega)
    obtain ⟨r, p', sd', e, g⟩ := row_draw s hs L x5 P hL hP hK d (row ++ [wrap64 (x - 4)]) p2 s2 (by simp; omega) (by omega) (by omega)
    have hd : wrap64 (((d + 1 : Nat) : Int) - 1) = (d : Int) := by rw [w64 (by omega) (by omega)]; omega
    refine ⟨r, p', sd', Evt.step (fun k => ?_) e, g⟩
    simp only [spec_l1Cur_joinable.l1]
    rw [hd, if_pos (by clear hd; omega), e2]; simp only [Option.bind_some]
    rw [if_pos (by clear hd; omega)]
theorem rows_draw (s : List Int) (hs : Bytes s) : ∀ (n : Nat) (L : List (List Int)) (p sd : Int), FewRows L → L.length + n ≤ 400 → n ≤ 10 → 0 ≤ p → p + 20 * n ≤ 700000 → ∃ r p' sd', Evt (fun k => spec_l1Cur_joinable.l0 k L n s p sd) (r, p', sd') ∧ FewRows r
  | 0, L, p, sd, hL, hn, h10, h0, h1 => ⟨L, p, sd, Evt.step (h := fun _ => some (L, p, sd)) (fun k => by simp only [spec_l1Cur_joinable.l0]; rw [if_neg (by omega)]) (Evt.ret _), hL⟩
  | n + 1, L, p, sd, hL, hn, h10, h0, h1 => by
    obtain ⟨x, p2, s2, e2, a1, a2, g3, g4⟩ := pick_some s p sd 4 hs h0 (by omega) (by omega)
    have hd : wrap64 (((n + 1 : Nat) : Int) - 1) = (n : Int) := by rw [w64 (by omega) (by omega)]; omega
    obtain ⟨r, p', sd', e, g⟩ := row_draw s hs L ((n + 1 : Nat) : Int) (p + 20) hL.1 (by clear hd; omega) (fun row p3 s3 q1 q2 q3 => by
      rw [hd]
      clear hd
      exact rows_draw s hs n (L ++ [row]) p3 s3 ⟨by simp; omega, fun y hy => by
        rcases List.mem_append.mp hy with h | h
        · exact hL.2 y h
        · rw [List.mem_singleton.mp h]; omega⟩ (by simp; omega) (by omega) q2 (by omega)) x.toNat [] p2 s2 (by clear hd; simp; omega) (by clear hd; omega) (by clear hd; omega)
    clear hd
    rw [Int.toNat_of_nonneg a1] at e
    refine ⟨r, p', sd', Evt.step (fun k => ?_) e, g⟩
    simp only [spec_l1Cur_joinable.l0]
    rw [if_pos (by omega), e2]; rfl
theorem draw_JoinPhases (s : List Int) (hs : Bytes s) : ∃ r, Evt (fun k => spec_DrawJoinPhases.f k s) r ∧ FewRows r := by
  obtain ⟨h, p1, s1, e1, hl, g1, g2⟩ := weights_some s 0 0 hs (by omega) (by omega)
  suffices ∀ (z : Bool) (p sd : Int), 0 ≤ p → p ≤ 1000 → ∃ r p' sd', Evt (fun k => spec_l1Cur_joinable.j0 k h z s p sd) (r, p', sd') ∧ FewRows r by
    unfold spec_DrawJoinPhases.f spec_l1Cur_joinable.f
    by_cases c : wei h = true
    · obtain ⟨z, p2, s2, e2, g3, g4⟩ := one_some s p1 s1 4 hs (by omega) (by omega) (by omega)
      obtain ⟨r, p', sd', e, g⟩ := this (!z) p2 s2 (by omega) (by omega)
      exact ⟨r, Evt.bind (Evt.bind e1 (Evt.bind (weGood_val h) (Evt.pos c (Evt.bindp e2 e)))) (Evt.ret _), g⟩
    · obtain ⟨r, p', sd', e, g⟩ := this false p1 s1 (by omega) (by omega)
      exact ⟨r, Evt.bind (Evt.bind e1 (Evt.bind (weGood_val h) (Evt.neg c e))) (Evt.ret _), g⟩
  intro z p sd h0 h1
  obtain ⟨x, p2, s2, e2, a1, a2, g3, g4⟩ := pick_some s p sd 4 hs h0 (by omega) (by omega)
  cases z with
  | true =>
    have hw : wrap64 (1 + x) = (((1 + x).toNat : Nat) : Int) := by rw [w64 (by omega) (by omega), Int.toNat_of_nonneg (by omega)]
    refine ⟨phL h (1 + x).toNat, p2, s2, Evt.step (fun k => by simp only [spec_l1Cur_joinable.j0]; rw [if_pos trivial]) (Evt.bindp e2 ?_), ?_⟩
    · simp only [hw]
      clear hw
      exact Evt.bind (rsPhases_val h (by omega) (by omega) (by omega)) (Evt.ret _)
    · clear hw
      refine ⟨by rw [phL_len]; omega, fun y hy => ?_⟩
      obtain ⟨r, hr, rfl⟩ := List.mem_map.mp hy
      rw [dropL_len]
      have := dcnt_le (m := h.length) (r := r) (p := (1 + x).toNat) (by omega)
      omega
  | false =>
    obtain ⟨r, p', sd', e, g⟩ := rows_draw s hs x.toNat [] p2 s2 ⟨by simp, by simp⟩ (by simp; omega) (by omega) (by omega) (by omega)
    rw [Int.toNat_of_nonneg a1] at e
    exact ⟨r, p', sd', Evt.step (fun k => by simp only [spec_l1Cur_joinable.j0]; rw [if_neg (by simp)]) (Evt.bindp e2 e), g⟩
theorem joR_len (L : List (List Int)) : (joR L).1.length ≤ 1000000 := by
  unfold joR
  by_cases c : (inB L.length 1 8 && jpB L && wei (joL L)) = true
  · rw [if_pos c]
    rw [Bool.and_eq_true] at c
    have := (wei_iff.mp c.2).1
    show (joL L).length ≤ _; omega
  · rw [if_neg c]; simp
theorem upR_len (h s : List Int) (p q : Int) : (upR h s p q).1.length ≤ 1000000 := by
  unfold upR; split
  · exact told_len _
  · simp
end Go.Proofs.Ytloedgmalnjckaa.PlainFnPhasesWork
