/- Cuts and loops for great frames: what a statement leaves of the frame is told by one function of the slots. No condition. -/
import Derived.Test.YtjbpflfihdabhaaWWords
import Derived.Deep.DeepCutAuto
import Derived.Deep.LoopGhost
import Derived.Deep.Cut
namespace Go.Proofs.Ytjbpflfihdabhaa.Cuts
abbrev tt : Bool := true
abbrev ff : Bool := false
open Go
set_option linter.unusedVariables false

/-- the slots l, those that m marks being told by f -/
def ov : List Value → List Bool → (Nat → Value) → Nat → List Value
  | _ :: l, true :: m, f, i => f i :: ov l m f (i + 1)
  | x :: l, false :: m, f, i => x :: ov l m f (i + 1)
  | l, _, _, _ => l
/-- the slots that m does not mark -/
def kept : List Value → List Bool → List Value
  | _ :: l, true :: m => kept l m
  | x :: l, false :: m => x :: kept l m
  | l, _ => l
theorem ov_of : ∀ (l x : List Value) (m : List Bool) (f : Nat → Value) (i : Nat), x.length = l.length → kept l m = kept x m → (∀ j, j < x.length → f (i + j) = x.getD j undef) → ov l m f i = x
  | [], [], m, f, i, _, _, _ => by cases m with
    | nil => rfl
    | cons b m => cases b <;> rfl
  | y :: l, x :: xs, [], f, i, hl, hk, hf => by simpa [ov, kept] using hk
  | y :: l, x :: xs, true :: m, f, i, hl, hk, hf => by
    have h0 := hf 0 (by simp)
    have ih := ov_of l xs m f (i + 1) (by simpa using hl) (by simpa [kept] using hk) (fun j hj => by
      have := hf (j + 1) (by simpa using hj)
      simp only [List.getD_cons_succ] at this
      rw [← this]; congr 1; omega)
    simp only [ov]
    rw [ih]
    simp at h0
    rw [h0]
  | y :: l, x :: xs, false :: m, f, i, hl, hk, hf => by
    simp only [kept, List.cons.injEq] at hk
    have ih := ov_of l xs m f (i + 1) (by simpa using hl) hk.2 (fun j hj => by
      have := hf (j + 1) (by simpa using hj)
      simp only [List.getD_cons_succ] at this
      rw [← this]; congr 1; omega)
    simp only [ov]
    rw [ih, hk.1]
  | [], x :: xs, m, f, i, hl, _, _ => by simp at hl
  | y :: l, [], m, f, i, hl, _, _ => by simp at hl

theorem cutF {P : Program} {c : Code} {K : Act → World → Prop} {Q' : Exit → Act → World → Prop} {l : List Value} {ds : List Deferred} {w : World} (m : List Bool) (R : (Nat → Value) → World → Prop)
    (first : ∀ (J K' : Act → World → Prop), (∀ a' w', (∃ f, R f w' ∧ a' = ⟨(ov l m f 0).toArray, ds⟩) → J a' w') → (∀ a' w', Met J a' w' → K' a' w') → c.wp P (Exit.then K' Q') ⟨l.toArray, ds⟩ w)
    (rest : ∀ f w', R f w' → K ⟨(ov l m f 0).toArray, ds⟩ w') : c.wp P (Exit.then K Q') ⟨l.toArray, ds⟩ w :=
  wp_cut (fun a' w' => ∃ f, R f w' ∧ a' = ⟨(ov l m f 0).toArray, ds⟩) (fun a' w' h => by obtain ⟨f, hr, rfl⟩ := h; exact rest f w' hr) first
theorem meetF {J : Act → World → Prop} {l : List Value} {ds : List Deferred} {m : List Bool} {R : (Nat → Value) → World → Prop} {x : List Value} {w : World}
    (hJ : ∀ a' w', (∃ f, R f w' ∧ a' = ⟨(ov l m f 0).toArray, ds⟩) → J a' w') (h1 : x.length = l.length) (h2 : kept l m = kept x m) (hR : R (fun i => x.getD i undef) w) : Met J ⟨x.toArray, ds⟩ w :=
  hJ _ _ ⟨_, hR, by rw [ov_of l x m (fun i => x.getD i undef) 0 h1 h2 (fun j _ => by simp)]⟩
theorem loopF {P : Program} {Q : Exit → Act → World → Prop} {l : List Value} {ds : List Deferred} {w : World} {c : Code} (n₀ : Nat) (m : List Bool) (R : Nat → (Nat → Value) → World → Prop)
    (atStart : R n₀ (fun i => l.getD i undef) w)
    (round : ∀ n f wr, R n f wr → ∀ (J : Nat → Act → World → Prop) (K : Act → World → Prop), (∀ k a' w', (∃ f, R k f w' ∧ a' = ⟨(ov l m f 0).toArray, ds⟩) → J k a' w') → (∀ a' w', Handed J n a' w' → K a' w') → c.wp P (Exit.then K Q) ⟨(ov l m f 0).toArray, ds⟩ wr) :
    (Code.loop c).wp P Q ⟨l.toArray, ds⟩ w :=
  wp_loop_ghost_k (fun k a' w' => ∃ f, R k f w' ∧ a' = ⟨(ov l m f 0).toArray, ds⟩) n₀ ⟨_, atStart, by rw [ov_of l l m _ 0 rfl rfl (fun j _ => by simp)]⟩
    (fun n a w h J K hJ hK => by obtain ⟨f, hr, rfl⟩ := h; exact round n f w hr J K hJ hK)
theorem handF {J : Nat → Act → World → Prop} {l : List Value} {ds : List Deferred} {m : List Bool} {R : Nat → (Nat → Value) → World → Prop} {n : Nat} {x : List Value} {w : World} (k : Nat) (hk : k < n)
    (hJ : ∀ k a' w', (∃ f, R k f w' ∧ a' = ⟨(ov l m f 0).toArray, ds⟩) → J k a' w') (h1 : x.length = l.length) (h2 : kept l m = kept x m) (hR : R k (fun i => x.getD i undef) w) : Handed J n ⟨x.toArray, ds⟩ w :=
  Handed.intro k hk (hJ _ _ _ ⟨_, hR, by rw [ov_of l x m (fun i => x.getD i undef) 0 h1 h2 (fun j _ => by simp)]⟩)
end Go.Proofs.Ytjbpflfihdabhaa.Cuts
