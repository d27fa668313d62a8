/- Cuts and loops for great frames: what a statement leaves of the frame is told by one function of the slots. No condition. -/
import Derived.Test.YtloedgmalnjckaaWWords
import Derived.Deep.DeepCutAuto
import Derived.Deep.LoopGhost
import Derived.Deep.Cut
import Derived.Test.YtloedgmalnjckaaWLast
import Derived.Test.YtloedgmalnjckaaWTab
import Derived.Tactics
import Derived.KernelRfl
namespace Go.Proofs.Ytloedgmalnjckaa.Cuts
abbrev tt : Bool := true
abbrev ff : Bool := false
open Go
set_option linter.unusedVariables false

/-- the slots l, those that m marks being told by f -/
def ov : List Value → List Bool → (Nat → Value) → Nat → List Value
  | _ :: l, true :: m, f, i => f i :: ov l m f (i + 1)
  | x :: l, false :: m, f, i => x :: ov l m f (i + 1)
  | l, _, _, _ => l
/-- the slots that m does not mark -/
def kept : List Value → List Bool → List Value
  | _ :: l, true :: m => kept l m
  | x :: l, false :: m => x :: kept l m
  | l, _ => l
theorem ov_of : ∀ (l x : List Value) (m : List Bool) (f : Nat → Value) (i : Nat), x.length = l.length → kept l m = kept x m → (∀ j, j < x.length → f (i + j) = x.getD j undef) → ov l m f i = x
  | [], [], m, f, i, _, _, _ => by cases m with
    | nil => rfl
    | cons b m => cases b <;> rfl
  | y :: l, x :: xs, [], f, i, hl, hk, hf => by simpa [ov, kept] using hk
  | y :: l, x :: xs, true :: m, f, i, hl, hk, hf => by
    have h0 := hf 0 (by simp)
    have ih := ov_of l xs m f (i + 1) (by simpa using hl) (by simpa [kept] using hk) (fun j hj => by
      have := hf (j + 1) (by simpa using hj)
      simp only [List.getD_cons_succ] at this
      rw [← this]; congr 1; omega)
    simp only [ov]
    rw [ih]
    simp at h0
    rw [h0]
  | y :: l, x :: xs, false :: m, f, i, hl, hk, hf => by
    simp only [kept, List.cons.injEq] at hk
    have ih := ov_of l xs m f (i + 1) (by simpa using hl) hk.2 (fun j hj => by
      have := hf (j + 1) (by simpa using hj)
      simp only [List.getD_cons_succ] at this
      rw [← this]; congr 1; omega)
    simp only [ov]
    rw [ih, hk.1]
  | [], x :: xs, m, f, i, hl, _, _ => by simp at hl
  | y :: l, [], m, f, i, hl, _, _ => by simp at hl

theorem cutF {P : Program} {c : Code} {K : Act → World → Prop} {Q' : Exit → Act → World → Prop} {l : List Value} {ds : List Deferred} {w : World} (m : List Bool) (R : (Nat → Value) → World → Prop)
    (first : ∀ (J K' : Act → World → Prop), (∀ a' w', (∃ f, R f w' ∧ a' = ⟨(ov l m f 0).toArray, ds⟩) → J a' w') → (∀ a' w', Met J a' w' → K' a' w') → c.wp P (Exit.then K' Q') ⟨l.toArray, ds⟩ w)
    (rest : ∀ f w', R f w' → K ⟨(ov l m f 0).toArray, ds⟩ w') : c.wp P (Exit.then K Q') ⟨l.toArray, ds⟩ w :=
  wp_cut (fun a' w' => ∃ f, R f w' ∧ a' = ⟨(ov l m f 0).toArray, ds⟩) (fun a' w' h => by obtain ⟨f, hr, rfl⟩ := h; exact rest f w' hr) first
theorem meetF {J : Act → World → Prop} {l : List Value} {ds : List Deferred} {m : List Bool} {R : (Nat → Value) → World → Prop} {x : List Value} {w : World}
    (hJ : ∀ a' w', (∃ f, R f w' ∧ a' = ⟨(ov l m f 0).toArray, ds⟩) → J a' w') (h1 : x.length = l.length) (h2 : kept l m = kept x m) (hR : R (fun i => x.getD i undef) w) : Met J ⟨x.toArray, ds⟩ w :=
  hJ _ _ ⟨_, hR, by rw [ov_of l x m (fun i => x.getD i undef) 0 h1 h2 (fun j _ => by simp)]⟩
theorem loopF {P : Program} {Q : Exit → Act → World → Prop} {l : List Value} {ds : List Deferred} {w : World} {c : Code} (n₀ : Nat) (m : List Bool) (R : Nat → (Nat → Value) → World → Prop)
    (atStart : R n₀ (fun i => l.getD i undef) w)
    (round : ∀ n f wr, R n f wr → ∀ (J : Nat → Act → World → Prop) (K : Act → World → Prop), (∀ k a' w', (∃ f, R k f w' ∧ a' = ⟨(ov l m f 0).toArray, ds⟩) → J k a' w') → (∀ a' w', Handed J n a' w' → K a' w') → c.wp P (Exit.then K Q) ⟨(ov l m f 0).toArray, ds⟩ wr) :
    (Code.loop c).wp P Q ⟨l.toArray, ds⟩ w :=
  wp_loop_ghost_k (fun k a' w' => ∃ f, R k f w' ∧ a' = ⟨(ov l m f 0).toArray, ds⟩) n₀ ⟨_, atStart, by rw [ov_of l l m _ 0 rfl rfl (fun j _ => by simp)]⟩
    (fun n a w h J K hJ hK => by obtain ⟨f, hr, rfl⟩ := h; exact round n f w hr J K hJ hK)
theorem handF {J : Nat → Act → World → Prop} {l : List Value} {ds : List Deferred} {m : List Bool} {R : Nat → (Nat → Value) → World → Prop} {n : Nat} {x : List Value} {w : World} (k : Nat) (hk : k < n)
    (hJ : ∀ k a' w', (∃ f, R k f w' ∧ a' = ⟨(ov l m f 0).toArray, ds⟩) → J k a' w') (h1 : x.length = l.length) (h2 : kept l m = kept x m) (hR : R k (fun i => x.getD i undef) w) : Handed J n ⟨x.toArray, ds⟩ w :=
  Handed.intro k hk (hJ _ _ _ ⟨_, hR, by rw [ov_of l x m (fun i => x.getD i undef) 0 h1 h2 (fun j _ => by simp)]⟩)

/-! ### short words for the steps of a drawn region -/
open Go.RowKit Go.Proofs.YtloedgmalnjckaaW.PrintLast Go.Proofs.YtloedgmalnjckaaW.PrintWords
/-- what has come up: the first n bits of b -/
def bm (n b : Nat) : Array Bool := ((List.range n).map (fun i => b.testBit i)).toArray
theorem pureT_ {P : Program} {ops : Array Oper} {Q : Exit → Act → World → Prop} {md : Region.Mode} {S : World → Prop} {ds : List Nat} {T : Bool × List (List Nat × List Nat)} {oi : Oper} {v : Value} {fuel : Nat} {l : Array Bool} {a a' : Act} {w : World} (i N : Nat) (l' : Array Bool)
    (hT : rtab md ops = T) (h : wpAnyLast P md ops Q S ds fuel l' a' w) (hi : ops[i]? = some oi := by rfl) (hN : oi.dst = some N := by rfl) (hc : anyT T l.toList l'.toList i = true := by kernel_rfl)
    (hQ : ∀ c a w, Q (.panic c) (a.put oi.dst v) w → Q (.panic c) a w := by exact fun _ _ _ h => h) (hy : Yields P ops oi v a := by exact Or.inl ⟨by rfl, by intro w'; go_simp; with_reducible rfl⟩)
    (ha : a.put (some N) v = a' := by simp only [Act.put, List.setIfInBounds_toArray, List.set_cons_zero, List.set_cons_succ, i64_w, i32_w]; rfl) : wpAnyLast P md ops Q S ds (fuel + 1) l a w :=
  pure_ l' hi hN (any_of hT hc) hQ hy ha h
theorem goesLS_ {P : Program} {ops : Array Oper} {Q : Exit → Act → World → Prop} {rest : List Oper} {oi : Oper} {a : Act} {w : World} (N : Option Tmp) {f : FuncId} {fn : Func} {as : Array Operand} {ts : Array TypeId} (hf : P.funcs[f]? = some fn) (args : Array Value)
    (h : Calls P f args w fun e w' => ∃ v, e = .returned v ∧ wpList P ops Q rest (a.put N v) w') (hname : (fn.name == "runtime.NumGoroutine") = false := by kernel_rfl) (hb : fn.body.isSome = true := by rfl) (hd : oi.dst = N := by rfl) (hg : oi.guard = none := by rfl)
    (hop : oi.op = .call { callee := .value (.func f), args := as, argTypes := ts } := by rfl) (hargs : as.map a.eval = args := by (try simp only [List.map_toArray, List.map_cons, List.map_nil]); first | done | rfl | (simp only [List.length_drop, List.length_take]; rfl)) :
    wpList P ops Q (oi :: rest) a w := goesL_ N hd hg hf hname hb args hop hargs h
theorem goesS_ {P : Program} {ops : Array Oper} {Q : Exit → Act → World → Prop} {oi : Oper} {N : Option Tmp} {a : Act} {w : World} {K : Act → World → Prop} {f : FuncId} {fn : Func} {as : Array Operand} {ts : Array TypeId} (hf : P.funcs[f]? = some fn) (args : Array Value)
    (h : Calls P f args w fun e w' => ∃ v, e = .returned v ∧ K (a.put N v) w') (hname : (fn.name == "runtime.NumGoroutine") = false := by kernel_rfl) (hb : fn.body.isSome = true := by rfl) (hw : Region.wanted oi (yielded ops a.tmps) = true := by rfl) (hN : oi.dst = N := by rfl)
    (hop : oi.op = .call { callee := .value (.func f), args := as, argTypes := ts } := by rfl) (hargs : as.map a.eval = args := by (try simp only [List.map_toArray, List.map_cons, List.map_nil]); first | done | rfl | (simp only [List.length_drop, List.length_take]; rfl)) :
    if Region.wanted oi (yielded ops a.tmps) = true then Oper.wp P oi a w K Q else K (a.put N undef) w := goes_ hf hname hb args hw hN hop hargs h
theorem boxS_ {P : Program} {ops : Array Oper} {Q : Exit → Act → World → Prop} {rest : List Oper} {o : Oper} {a : Act} {W : World} (N : Tmp) (cs : Array Value) (t : TypeId)
    (h : ∀ g, g = W.heap.size → ∀ w1, w1.heap[g]? = some (.cells cs t (0, 0)) → Below W.heap.size W w1 → wpList P ops Q rest (a.put o.dst (.pointer (some ⟨g, 0, none⟩))) w1)
    (hgd : o.guard = none := by rfl) (hd : o.dst = some N := by rfl) (hrun : (execOp a.eval o).run P W = .ok (.value (.pointer (some ⟨W.heap.size, 0, none⟩))) (W.alloc (.cells cs t (0, 0))) := by first | (go_simp; done) | (go_simp; rfl)) : wpList P ops Q (o :: rest) a W :=
  box_event hgd hd hrun h
theorem bl0 {A B : Prop} (h : A) (t : A → B := by intro h_; repeat (first | (with_reducible first | exact h_ | apply below_alloc | apply pw_below_drewN | apply below_drew1) | exact h_)) : B := t h
theorem bl1 {A B C0 : Prop} (h : A) (g0 : C0) (t : A → C0 → B := by intro h_ g0_; repeat (first | (with_reducible first | exact h_ | apply below_alloc | apply pw_below_drewN | apply below_drew1 | refine below_set ?_ g0_) | exact h_)) : B := t h g0
theorem bl2 {A B C0 C1 : Prop} (h : A) (g0 : C0) (g1 : C1) (t : A → C0 → C1 → B := by intro h_ g0_ g1_; repeat (first | (with_reducible first | exact h_ | apply below_alloc | apply pw_below_drewN | apply below_drew1 | refine below_set ?_ g0_ | refine below_set ?_ g1_) | exact h_)) : B := t h g0 g1
theorem bl3 {A B C0 C1 C2 : Prop} (h : A) (g0 : C0) (g1 : C1) (g2 : C2) (t : A → C0 → C1 → C2 → B := by intro h_ g0_ g1_ g2_; repeat (first | (with_reducible first | exact h_ | apply below_alloc | apply pw_below_drewN | apply below_drew1 | refine below_set ?_ g0_ | refine below_set ?_ g1_ | refine below_set ?_ g2_) | exact h_)) : B := t h g0 g1 g2
theorem bl4 {A B C0 C1 C2 C3 : Prop} (h : A) (g0 : C0) (g1 : C1) (g2 : C2) (g3 : C3) (t : A → C0 → C1 → C2 → C3 → B := by intro h_ g0_ g1_ g2_ g3_; repeat (first | (with_reducible first | exact h_ | apply below_alloc | apply pw_below_drewN | apply below_drew1 | refine below_set ?_ g0_ | refine below_set ?_ g1_ | refine below_set ?_ g2_ | refine below_set ?_ g3_) | exact h_)) : B := t h g0 g1 g2 g3
theorem kk0 {A B : Prop} (h : A) (t : A → B := by intro h_; repeat (first | (with_reducible first | exact h_ | apply KeepBut.set_ | apply keep_drewN | apply keep_drew | apply keep_alloc) | exact h_)) : B := t h
theorem kk1 {A B C0 : Prop} (h : A) (g0 : C0) (t : A → C0 → B := by intro h_ g0_; repeat (first | (with_reducible first | exact h_ | apply KeepBut.set_ | apply keep_drewN | apply keep_drew | apply keep_alloc | refine keep_far ?_ g0_ _) | exact h_)) : B := t h g0
theorem kk2 {A B C0 C1 : Prop} (h : A) (g0 : C0) (g1 : C1) (t : A → C0 → C1 → B := by intro h_ g0_ g1_; repeat (first | (with_reducible first | exact h_ | apply KeepBut.set_ | apply keep_drewN | apply keep_drew | apply keep_alloc | refine keep_far ?_ g0_ _ | refine keep_far ?_ g1_ _) | exact h_)) : B := t h g0 g1
theorem kk3 {A B C0 C1 C2 : Prop} (h : A) (g0 : C0) (g1 : C1) (g2 : C2) (t : A → C0 → C1 → C2 → B := by intro h_ g0_ g1_ g2_; repeat (first | (with_reducible first | exact h_ | apply KeepBut.set_ | apply keep_drewN | apply keep_drew | apply keep_alloc | refine keep_far ?_ g0_ _ | refine keep_far ?_ g1_ _ | refine keep_far ?_ g2_ _) | exact h_)) : B := t h g0 g1 g2
theorem kb {A B : Prop} (h : A) (t : A → B := by intro h_; (with_reducible repeat (first | refine blk_drewN ?_ _ | refine blk_drew ?_ | refine blk_alloc ?_ _)); exact h_) : B := t h
theorem kr {A B : Prop} (h : A) (t : A → B := by intro h_; (with_reducible repeat (first | apply Kd.R_alloc | apply Kd.R_drewN | apply Kd.R_drew)); exact h_) : B := t h
theorem cz1 {W : World} {g : Nat} {t : TypeId} {a0 : Value} (h : W.heap[g]? = some (.cells #[a0] t (0, 0))) : W.cell? ⟨g, 0, none⟩ = some a0 ∧ W.frozen? ⟨g, 0, none⟩ = false :=
  ⟨(blk_cell h 0).trans rfl, blk_frozen h 0⟩
theorem cz2 {W : World} {g : Nat} {t : TypeId} {a0 a1 : Value} (h : W.heap[g]? = some (.cells #[a0, a1] t (0, 0))) : W.cell? ⟨g, 0, none⟩ = some a0 ∧ W.cell? ⟨g, 1, none⟩ = some a1 ∧ W.frozen? ⟨g, 0, none⟩ = false ∧ W.frozen? ⟨g, 1, none⟩ = false :=
  ⟨(blk_cell h 0).trans rfl, (blk_cell h 1).trans rfl, blk_frozen h 0, blk_frozen h 1⟩
theorem cz3 {W : World} {g : Nat} {t : TypeId} {a0 a1 a2 : Value} (h : W.heap[g]? = some (.cells #[a0, a1, a2] t (0, 0))) : W.cell? ⟨g, 0, none⟩ = some a0 ∧ W.cell? ⟨g, 1, none⟩ = some a1 ∧ W.cell? ⟨g, 2, none⟩ = some a2 ∧ W.frozen? ⟨g, 0, none⟩ = false ∧ W.frozen? ⟨g, 1, none⟩ = false ∧ W.frozen? ⟨g, 2, none⟩ = false :=
  ⟨(blk_cell h 0).trans rfl, (blk_cell h 1).trans rfl, (blk_cell h 2).trans rfl, blk_frozen h 0, blk_frozen h 1, blk_frozen h 2⟩
theorem cz4 {W : World} {g : Nat} {t : TypeId} {a0 a1 a2 a3 : Value} (h : W.heap[g]? = some (.cells #[a0, a1, a2, a3] t (0, 0))) : W.cell? ⟨g, 0, none⟩ = some a0 ∧ W.cell? ⟨g, 1, none⟩ = some a1 ∧ W.cell? ⟨g, 2, none⟩ = some a2 ∧ W.cell? ⟨g, 3, none⟩ = some a3 ∧ W.frozen? ⟨g, 0, none⟩ = false ∧ W.frozen? ⟨g, 1, none⟩ = false ∧ W.frozen? ⟨g, 2, none⟩ = false ∧ W.frozen? ⟨g, 3, none⟩ = false :=
  ⟨(blk_cell h 0).trans rfl, (blk_cell h 1).trans rfl, (blk_cell h 2).trans rfl, (blk_cell h 3).trans rfl, blk_frozen h 0, blk_frozen h 1, blk_frozen h 2, blk_frozen h 3⟩
theorem cz5 {W : World} {g : Nat} {t : TypeId} {a0 a1 a2 a3 a4 : Value} (h : W.heap[g]? = some (.cells #[a0, a1, a2, a3, a4] t (0, 0))) : W.cell? ⟨g, 0, none⟩ = some a0 ∧ W.cell? ⟨g, 1, none⟩ = some a1 ∧ W.cell? ⟨g, 2, none⟩ = some a2 ∧ W.cell? ⟨g, 3, none⟩ = some a3 ∧ W.cell? ⟨g, 4, none⟩ = some a4 ∧ W.frozen? ⟨g, 0, none⟩ = false ∧ W.frozen? ⟨g, 1, none⟩ = false ∧ W.frozen? ⟨g, 2, none⟩ = false ∧ W.frozen? ⟨g, 3, none⟩ = false ∧ W.frozen? ⟨g, 4, none⟩ = false :=
  ⟨(blk_cell h 0).trans rfl, (blk_cell h 1).trans rfl, (blk_cell h 2).trans rfl, (blk_cell h 3).trans rfl, (blk_cell h 4).trans rfl, blk_frozen h 0, blk_frozen h 1, blk_frozen h 2, blk_frozen h 3, blk_frozen h 4⟩
theorem cz6 {W : World} {g : Nat} {t : TypeId} {a0 a1 a2 a3 a4 a5 : Value} (h : W.heap[g]? = some (.cells #[a0, a1, a2, a3, a4, a5] t (0, 0))) : W.cell? ⟨g, 0, none⟩ = some a0 ∧ W.cell? ⟨g, 1, none⟩ = some a1 ∧ W.cell? ⟨g, 2, none⟩ = some a2 ∧ W.cell? ⟨g, 3, none⟩ = some a3 ∧ W.cell? ⟨g, 4, none⟩ = some a4 ∧ W.cell? ⟨g, 5, none⟩ = some a5 ∧ W.frozen? ⟨g, 0, none⟩ = false ∧ W.frozen? ⟨g, 1, none⟩ = false ∧ W.frozen? ⟨g, 2, none⟩ = false ∧ W.frozen? ⟨g, 3, none⟩ = false ∧ W.frozen? ⟨g, 4, none⟩ = false ∧ W.frozen? ⟨g, 5, none⟩ = false :=
  ⟨(blk_cell h 0).trans rfl, (blk_cell h 1).trans rfl, (blk_cell h 2).trans rfl, (blk_cell h 3).trans rfl, (blk_cell h 4).trans rfl, (blk_cell h 5).trans rfl, blk_frozen h 0, blk_frozen h 1, blk_frozen h 2, blk_frozen h 3, blk_frozen h 4, blk_frozen h 5⟩
end Go.Proofs.Ytloedgmalnjckaa.Cuts
