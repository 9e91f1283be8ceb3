/-
  The base of a layer over the kit's 'Code.wp': a frame is a function from slots to values; one rule for each kind of operation; an order that is left open is gone through once.
-/
import Derived.WalkKit
import Derived.OrdersHeld
import Derived.StillTail
import Derived.Deep.RegionHeld3
import Derived.KernelRfl
namespace Go.Vc
open Go

/-! ### frames -/
def upd (f : Nat → Value) (d : Nat) (v : Value) : Nat → Value := fun i => bif Nat.beq i d then v else f i
def Fr (n : Nat) (f : Nat → Value) : Act := { tmps := Array.ofFn (n := n) fun i => f i, defers := [] }

theorem upd_eq (f : Nat → Value) (d : Nat) (v : Value) (i : Nat) : upd f d v i = if i = d then v else f i := by
  unfold upd
  by_cases h : i = d
  · subst h; simp
  · have : Nat.beq i d = false := by cases hb : Nat.beq i d with | false => rfl | true => exact absurd (Nat.eq_of_beq_eq_true hb) h
    simp [this, h]

theorem ev_t {n : Nat} {f : Nat → Value} {t : Nat} (h : Nat.blt t n = true) : (Fr n f).eval (.tmp t) = f t := by
  have h' : t < n := Nat.le_of_ble_eq_true h
  simp [Fr, Act.eval, h']

theorem ev_tv {n : Nat} {f : Nat → Value} {t : Nat} {v : Value} (h : Nat.blt t n = true) (e : f t = v) : (Fr n f).eval (.tmp t) = v := (ev_t h).trans e
theorem ev_c {n : Nat} {f : Nat → Value} {v : Value} : (Fr n f).eval (.const v) = v := rfl
theorem ev_f {n : Nat} {f : Nat → Value} {k : Nat} : (Fr n f).eval (.func k) = .func (.func k) #[] #[] := rfl
theorem ev_g {n : Nat} {f : Nat → Value} {k : Nat} : (Fr n f).eval (.global k) = .pointer (some ⟨k, 0, none⟩) := rfl

theorem fr_put (n : Nat) (f : Nat → Value) (d : Nat) (v : Value) : (Fr n f).put (some d) v = Fr n (upd f d v) := by
  simp only [Act.put, Fr]
  congr 1
  apply Array.ext
  · simp
  · intro i h1 h2
    simp only [Array.size_setIfInBounds, Array.size_ofFn] at h1
    rw [Array.getElem_setIfInBounds (by simpa using h1)]
    simp only [Array.getElem_ofFn, upd_eq]
    by_cases h : d = i
    · subst h; simp
    · rw [if_neg h, if_neg (fun e => h e.symm)]

theorem fr_put_none (n : Nat) (f : Nat → Value) (v : Value) : (Fr n f).put none v = Fr n f := rfl
theorem fr_defers (n : Nat) (f : Nat → Value) : (Fr n f).defers = [] := rfl

/-- The frame at a function's entry. -/
theorem fr_entry (args : List Value) (n : Nat) (h : Nat.ble args.length n = true) :
    ({ tmps := args.toArray ++ Array.replicate (n - args.toArray.size) undef, defers := [] } : Act) = Fr n (fun i => args.getD i undef) := by
  have h' : args.length ≤ n := Nat.le_of_ble_eq_true h
  simp only [Fr]
  congr 1
  apply Array.ext
  · simp; omega
  · intro i h1 h2
    simp only [Array.getElem_ofFn]
    by_cases hi : i < args.length
    · rw [Array.getElem_append_left (by simpa using hi)]; simp [List.getD_eq_getElem?_getD, hi]
    · rw [Array.getElem_append_right (by simpa using hi)]; simp [List.getD_eq_getElem?_getD, Nat.le_of_not_lt hi]

/-! ### the code's forms -/
theorem then_exit {K : Act → World → Prop} {Q : Exit → Act → World → Prop} {i : Nat} {a : Act} {w : World} (h : Q (.exit i) a w) : Exit.then K Q (.exit i) a w := h
theorem then_ret {K : Act → World → Prop} {Q : Exit → Act → World → Prop} {a : Act} {w : World} (h : Q .ret a w) : Exit.then K Q .ret a w := h
theorem then_norm {K : Act → World → Prop} {Q : Exit → Act → World → Prop} {a : Act} {w : World} (h : K a w) : Exit.then K Q .normal a w := h
theorem block_norm {id : Nat} {Q : Exit → Act → World → Prop} {a : Act} {w : World} (h : Q .normal a w) : Exit.inBlock id Q .normal a w := h
theorem block_ret {id : Nat} {Q : Exit → Act → World → Prop} {a : Act} {w : World} (h : Q .ret a w) : Exit.inBlock id Q .ret a w := h
theorem block_hit {id : Nat} {Q : Exit → Act → World → Prop} {a : Act} {w : World} (h : Q .normal a w) : Exit.inBlock id Q (.exit id) a w := by
  simpa [Exit.inBlock] using h
theorem block_miss {id i : Nat} {Q : Exit → Act → World → Prop} {a : Act} {w : World} (hi : Nat.beq i id = false) (h : Q (.exit i) a w) : Exit.inBlock id Q (.exit i) a w := by
  have : i ≠ id := fun e => by subst e; simp at hi
  simpa [Exit.inBlock, this] using h

/-- Code's 'wp' over a frame that is a function: shut, so that no tactic looks in. -/
def WC (P : Program) (c : Code) (Q : Exit → Act → World → Prop) (n : Nat) (f : Nat → Value) (w : World) : Prop := c.wp P Q (Fr n f) w
theorem WC_def {P : Program} {c : Code} {Q : Exit → Act → World → Prop} {n : Nat} {f : Nat → Value} {w : World} : WC P c Q n f w = c.wp P Q (Fr n f) w := rfl
attribute [irreducible] WC

theorem calls_start {P : Program} {f : FuncId} {fn : Func} {c : Code} {n : Nat} (args : List Value) {w : World} {R : Ending → World → Prop}
    (hf : P.funcs[f]? = some fn) (hb : fn.body = some c) (hn : fn.ntmps = n) (hl : Nat.ble args.length n = true)
    (h : WC P c (bodyPost P fn R) n (fun i => args.getD i undef) w) : Calls P f args.toArray w R := by
  rw [WC_def] at h
  refine calls_of_wp hf hb ?_
  rw [hn, fr_entry args n hl]
  exact h

section
variable {P : Program} {Q : Exit → Act → World → Prop} {n : Nat} {f : Nat → Value} {w : World}
theorem c_skip (h : Q .normal (Fr n f) w) : WC P .skip Q n f w := by rw [WC_def]; exact wp_skip h
theorem c_exit {id : Nat} (h : Q (.exit id) (Fr n f) w) : WC P (.exit id) Q n f w := by rw [WC_def]; exact wp_exit h
theorem c_ret (h : Q .ret (Fr n f) w) : WC P .ret Q n f w := by rw [WC_def]; exact wp_ret h
theorem c_block {id : Nat} {c : Code} (h : WC P c (Exit.inBlock id Q) n f w) : WC P (.block id c) Q n f w := by rw [WC_def] at *; exact wp_block h
theorem c_seq {x y : Code} (h : ∀ K : Act → World → Prop, (∀ f w, WC P y Q n f w → K (Fr n f) w) → WC P x (Exit.then K Q) n f w) : WC P (.seq x y) Q n f w := by
  rw [WC_def]
  refine wp_seq ?_
  have h2 := h (fun a w => ∃ f, a = Fr n f ∧ WC P y Q n f w) (fun f w h => ⟨f, rfl, h⟩)
  rw [WC_def] at h2
  refine Code.wp_mono (fun e a w h => ?_) h2
  cases e with
  | normal => obtain ⟨f, rfl, h⟩ := h; rw [WC_def] at h; exact h
  | exit id => exact h
  | goto l => exact h
  | ret => exact h
  | panic c => exact h
  | outgrown => exact h
theorem cond_t {c : Operand} {x y : Code} (hc : (Fr n f).eval c = .bool true) (h : WC P x Q n f w) : WC P (.cond c x y) Q n f w := by rw [WC_def] at *; exact wp_cond_true hc h
theorem cond_f {c : Operand} {x y : Code} (hc : (Fr n f).eval c = .bool false) (h : WC P y Q n f w) : WC P (.cond c x y) Q n f w := by rw [WC_def] at *; exact wp_cond_false hc h
end

/-- A loop: what holds at its head, beside a number that goes down. -/
theorem loop_idx {P : Program} {c : Code} {Q : Exit → Act → World → Prop} {a : Act} {w : World} (I : Nat → Act → World → Prop) (m0 : Nat) (h0 : I m0 a w)
    (round : ∀ m a w, I m a w → c.wp P (Exit.then (fun a' w' => ∃ m', m' < m ∧ I m' a' w') Q) a w) : (Code.loop c).wp P Q a w := by
  intro b k cs
  have key : ∀ n a w, I n a w →
      ∃ e a' w', Q e a' w' ∧ Arrives P (lone (b.at a (.code c :: .inLoop c :: k)) cs w) b k cs e a' w' := by
    intro n
    induction n using Nat.strongRecOn with
    | _ n ih =>
      intro a w hI
      obtain ⟨e, a₁, w₁, hq, harr⟩ := round n a w hI b (.inLoop c :: k) cs
      cases e with
      | normal =>
        obtain ⟨m', hlt, hI₁⟩ := hq
        obtain ⟨e₂, a₂, w₂, hq₂, harr₂⟩ := ih m' hlt a₁ w₁ hI₁
        exact ⟨e₂, a₂, w₂, hq₂, .of_steps (Steps.trans harr (.one step_inLoop)) harr₂⟩
      | exit id => exact ⟨_, a₁, w₁, hq, .pass (x := .inLoop c) rfl (fun _ _ => .inl (by simp)) harr⟩
      | goto l => exact ⟨_, a₁, w₁, hq, .pass (x := .inLoop c) rfl (fun _ _ => .inl (by simp)) harr⟩
      | ret => exact ⟨_, a₁, w₁, hq, .pass (x := .inLoop c) rfl (fun _ _ => .inl (by simp)) harr⟩
      | panic ch => exact ⟨_, a₁, w₁, hq, .pass (x := .inLoop c) rfl (fun _ _ => .inl (by simp)) harr⟩
      | outgrown => exact ⟨_, a₁, w₁, hq, .pass (x := .inLoop c) rfl (fun _ _ => .inl (by simp)) harr⟩
  obtain ⟨e, a', w', hq, harr⟩ := key m0 a w h0
  exact ⟨e, a', w', hq, .of_steps (.one step_loop) harr⟩

/-- Slots by ranges. -/
def inR (l : List (Nat × Nat)) (i : Nat) : Bool := l.any fun p => Nat.ble p.1 i && Nat.ble i p.2
def subR (l m : List (Nat × Nat)) : Bool := l.all fun p => m.any fun q => Nat.ble q.1 p.1 && Nat.ble p.2 q.2
theorem inR_sub {l m : List (Nat × Nat)} (h : subR l m = true) {i : Nat} (hi : inR l i = true) : inR m i = true := by
  obtain ⟨p, hp, hpi⟩ := List.any_eq_true.1 hi
  obtain ⟨q, hq, hqp⟩ := List.any_eq_true.1 (List.all_eq_true.1 h p hp)
  simp only [Bool.and_eq_true, Nat.ble_eq] at hpi hqp
  refine List.any_eq_true.2 ⟨q, hq, ?_⟩
  simp only [Bool.and_eq_true, Nat.ble_eq]
  omega
/-- Two frames agree outside some slots. -/
def Agree (D : List (Nat × Nat)) (f g : Nat → Value) : Prop := ∀ i, inR D i = false → f i = g i
theorem agree_refl {D : List (Nat × Nat)} {f : Nat → Value} : Agree D f f := fun _ _ => rfl
theorem agree_upd {D : List (Nat × Nat)} {f g : Nat → Value} {d : Nat} {v : Value} (hd : inR D d = true) (h : Agree D f g) : Agree D (upd f d v) g := by
  intro i hi
  rw [upd_eq, if_neg (fun e => by rw [e, hd] at hi; cases hi)]
  exact h i hi
theorem agree_via {D D1 : List (Nat × Nat)} {f f1 g : Nat → Value} (hag : Agree D1 f1 f) (hs : subR D1 D = true) (h : Agree D f g) : Agree D f1 g := by
  intro i hi
  have h1 : inR D1 i = false := by
    cases e : inR D1 i with
    | false => rfl
    | true => rw [inR_sub hs e] at hi; cases hi
  exact (hag i h1).trans (h i hi)

/-- Ways that meet again. -/
theorem c_seqJ {P : Program} {Q : Exit → Act → World → Prop} {n : Nat} {f : Nat → Value} {w : World} {x y : Code} (D : List (Nat × Nat)) (J : (Nat → Value) → World → Prop)
    (hx : ∀ K : Act → World → Prop, (∀ f' w', Agree D f' f → J f' w' → K (Fr n f') w') → WC P x (Exit.then K Q) n f w)
    (hy : ∀ f' w', Agree D f' f → J f' w' → WC P y Q n f' w') : WC P (.seq x y) Q n f w :=
  c_seq fun K hK => hx K fun f' w' ha hj => hK f' w' (hy f' w' ha hj)

/-- A loop over frames. -/
theorem loop_fr {P : Program} {c : Code} {Q : Exit → Act → World → Prop} {n : Nat} {f : Nat → Value} {w : World} (D : List (Nat × Nat)) (I : Nat → (Nat → Value) → World → Prop) (m0 : Nat) (h0 : I m0 f w)
    (round : ∀ m f' w', Agree D f' f → I m f' w' → WC P c (Exit.then (fun a' w'' => ∃ f'', a' = Fr n f'' ∧ Agree D f'' f ∧ ∃ m', m' < m ∧ I m' f'' w'') Q) n f' w') : WC P (.loop c) Q n f w := by
  rw [WC_def]
  refine loop_idx (fun m a w => ∃ f', a = Fr n f' ∧ Agree D f' f ∧ I m f' w) m0 ⟨f, rfl, agree_refl, h0⟩ ?_
  rintro m _ w' ⟨f', rfl, hag, hI⟩
  have hr := round m f' w' hag hI
  rw [WC_def] at hr
  refine Code.wp_mono (fun e a w'' h => ?_) hr
  cases e with
  | normal => obtain ⟨f'', rfl, hag', m', hm, hI'⟩ := h; exact ⟨m', hm, f'', rfl, hag', hI'⟩
  | exit id => exact h
  | goto l => exact h
  | ret => exact h
  | panic c => exact h
  | outgrown => exact h

/-! ### results -/
theorem body_norm {P : Program} {fn : Func} {R : Ending → World → Prop} {a : Act} {w : World} (h : bodyPost P fn R .ret a w) : bodyPost P fn R .normal a w := h
theorem body_0 {P : Program} {fn : Func} {R : Ending → World → Prop} {n : Nat} {f : Nat → Value} {w : World} (hr : fn.results = #[]) (h : R (.returned (.tuple #[])) w) :
    bodyPost P fn R .ret (Fr n f) w := ⟨rfl, _, by simp [results, hr], h⟩
theorem body_1 {P : Program} {fn : Func} {R : Ending → World → Prop} {n : Nat} {f : Nat → Value} {w : World} {t : Nat} {v : Value} (hr : fn.results = #[.tmp t]) (ht : (Fr n f).eval (.tmp t) = v)
    (h : R (.returned v) w) : bodyPost P fn R .ret (Fr n f) w := by
  refine ⟨rfl, _, results_tmp hr _ _ _, ?_⟩
  have e : (Fr n f).tmps.getD t undef = v := ht
  rw [e]; exact h
theorem body_2 {P : Program} {fn : Func} {R : Ending → World → Prop} {n : Nat} {f : Nat → Value} {w : World} {t u : Nat} {v x : Value} (hr : fn.results = #[.tmp t, .tmp u])
    (ht : (Fr n f).eval (.tmp t) = v) (hu : (Fr n f).eval (.tmp u) = x) (h : R (.returned (.tuple #[v, x])) w) : bodyPost P fn R .ret (Fr n f) w := by
  refine ⟨rfl, _, results_tmp2 hr _ _ _, ?_⟩
  have e : (Fr n f).tmps.getD t undef = v := ht
  have e2 : (Fr n f).tmps.getD u undef = x := hu
  rw [e, e2]; exact h
theorem body_3 {P : Program} {fn : Func} {R : Ending → World → Prop} {n : Nat} {f : Nat → Value} {w : World} {t u s : Nat} {v x y : Value} (hr : fn.results = #[.tmp t, .tmp u, .tmp s])
    (ht : (Fr n f).eval (.tmp t) = v) (hu : (Fr n f).eval (.tmp u) = x) (hs : (Fr n f).eval (.tmp s) = y) (h : R (.returned (.tuple #[v, x, y])) w) : bodyPost P fn R .ret (Fr n f) w := by
  refine ⟨rfl, .tuple #[v, x, y], ?_, h⟩
  have e : (Fr n f).tmps.getD t undef = v := ht
  have e2 : (Fr n f).tmps.getD u undef = x := hu
  have e3 : (Fr n f).tmps.getD s undef = y := hs
  rw [Array.getD_eq_getD_getElem?] at e e2 e3
  simp [results, hr, e, e2, e3]

/-! ### one operation, in a region whose order is the text's -/
def WL (P : Program) (ops : Array Oper) (Q : Exit → Act → World → Prop) (l : List Oper) (n : Nat) (f : Nat → Value) (w : World) : Prop := wpList P ops Q l (Fr n f) w
theorem WL_def {P : Program} {ops : Array Oper} {Q : Exit → Act → World → Prop} {l : List Oper} {n : Nat} {f : Nat → Value} {w : World} : WL P ops Q l n f w = wpList P ops Q l (Fr n f) w := rfl
attribute [irreducible] WL

section
variable {P : Program} {ops : Array Oper} {Q : Exit → Act → World → Prop} {rest : List Oper} {n : Nat} {f : Nat → Value} {w : World}
variable {d : Nat} {dst : Option Nat} {op : Op} {ty : Nat} {pos : String} {aft : Array Edge}

theorem l_nil (h : Q .normal (Fr n f) w) : WL P ops Q [] n f w := by rw [WL_def]; exact h
theorem c_region {id : Nat} {l : List Oper} (h : WL P l.toArray Q l n f w) : WC P (.region id l.toArray false) Q n f w := by
  rw [WL_def] at h; rw [WC_def]; exact wp_region_lit h

theorem L_val {v : Value} {w' : World} (hr : (execOp (Fr n f).eval ⟨some d, op, ty, pos, aft, none⟩).run P w = .ok (.value v) w')
    (h : WL P ops Q rest n (upd f d v) w') : WL P ops Q (⟨some d, op, ty, pos, aft, none⟩ :: rest) n f w := by
  rw [WL_def] at *
  refine wpList_plain rfl fun K hK => ?_
  unfold Oper.wp; rw [hr]; simp only [Oper.upon_value]
  rw [fr_put]; exact hK _ _ h

theorem L_skip {w' : World} (hr : (execOp (Fr n f).eval ⟨none, op, ty, pos, aft, none⟩).run P w = .ok .skip w')
    (h : WL P ops Q rest n f w') : WL P ops Q (⟨none, op, ty, pos, aft, none⟩ :: rest) n f w := by
  rw [WL_def] at *
  refine wpList_plain rfl fun K hK => ?_
  unfold Oper.wp; rw [hr]; simp only [Oper.upon_skip]
  exact hK _ _ h

theorem L_valn {v : Value} {w' : World} (hr : (execOp (Fr n f).eval ⟨none, op, ty, pos, aft, none⟩).run P w = .ok (.value v) w')
    (h : WL P ops Q rest n f w') : WL P ops Q (⟨none, op, ty, pos, aft, none⟩ :: rest) n f w := by
  rw [WL_def] at *
  refine wpList_plain rfl fun K hK => ?_
  unfold Oper.wp; rw [hr]; simp only [Oper.upon_value]
  exact hK _ _ h

theorem L_call {k : Nat} {args : Array Value} (hr : (execOp (Fr n f).eval ⟨some d, op, ty, pos, aft, none⟩).run P w = .ok (.enter k args) w)
    (h : Calls P k args w fun e w' => ∃ v, e = .returned v ∧ WL P ops Q rest n (upd f d v) w') :
    WL P ops Q (⟨some d, op, ty, pos, aft, none⟩ :: rest) n f w := by
  rw [WL_def]
  refine wpList_plain rfl fun K hK => ?_
  unfold Oper.wp; rw [hr]; simp only [Oper.upon_enter]
  refine Calls.mono h ?_
  rintro e w' ⟨v, rfl, h'⟩
  rw [WL_def] at h'
  show K ((Fr n f).put (some d) v) w'
  rw [fr_put]; exact hK _ _ h'

/-- A guard's answer. -/
theorem yielded_fr {j dj : Nat} {b : Bool} (hj : (ops[j]?).bind (·.dst) = some dj) (hlt : Nat.blt dj n = true) (hf : f dj = .bool b) : yielded ops (Fr n f).tmps j = some b := by
  have h' : dj < n := Nat.le_of_ble_eq_true hlt
  have e : (Fr n f).tmps[dj]? = some (.bool b) := by simp [Fr, h', hf]
  unfold yielded
  rw [hj]; simp [e]

theorem wanted_fr {o : Oper} {j dj : Nat} {b b' : Bool} (hg : o.guard = some (j, b')) (hj : (ops[j]?).bind (·.dst) = some dj) (hlt : Nat.blt dj n = true) (hf : f dj = .bool b) :
    Region.wanted o (yielded ops (Fr n f).tmps) = (b == b') := by
  unfold Region.wanted
  rw [hg]; simp only [yielded_fr hj hlt hf]
  cases b <;> cases b' <;> rfl

theorem G_val {j dj : Nat} {b : Bool} {v : Value} {w' : World} (hj : (ops[j]?).bind (·.dst) = some dj) (hlt : Nat.blt dj n = true) (hf : f dj = .bool b)
    (hr : (execOp (Fr n f).eval ⟨some d, op, ty, pos, aft, some (j, b)⟩).run P w = .ok (.value v) w')
    (h : WL P ops Q rest n (upd f d v) w') : WL P ops Q (⟨some d, op, ty, pos, aft, some (j, b)⟩ :: rest) n f w := by
  rw [WL_def] at *
  unfold wpList
  rw [wanted_fr (b := b) (b' := b) rfl hj hlt hf]
  simp only [beq_self_eq_true, if_true]
  refine .inl ?_
  unfold Oper.wp; rw [hr]; simp only [Oper.upon_value]
  rw [fr_put]; exact h

theorem G_call {j dj : Nat} {b : Bool} {k : Nat} {args : Array Value} (hj : (ops[j]?).bind (·.dst) = some dj) (hlt : Nat.blt dj n = true) (hf : f dj = .bool b)
    (hr : (execOp (Fr n f).eval ⟨some d, op, ty, pos, aft, some (j, b)⟩).run P w = .ok (.enter k args) w)
    (h : Calls P k args w fun e w' => ∃ v, e = .returned v ∧ WL P ops Q rest n (upd f d v) w') :
    WL P ops Q (⟨some d, op, ty, pos, aft, some (j, b)⟩ :: rest) n f w := by
  rw [WL_def] at *
  unfold wpList
  rw [wanted_fr (b := b) (b' := b) rfl hj hlt hf]
  simp only [beq_self_eq_true, if_true]
  refine .inl ?_
  unfold Oper.wp; rw [hr]; simp only [Oper.upon_enter]
  refine Calls.mono h ?_
  rintro e w' ⟨v, rfl, h'⟩
  rw [WL_def] at h'
  show wpList P ops Q rest ((Fr n f).put (some d) v) w'
  rw [fr_put]; exact h'

theorem G_skip {w' : World} {j dj : Nat} {b : Bool} (hj : (ops[j]?).bind (·.dst) = some dj) (hlt : Nat.blt dj n = true) (hf : f dj = .bool b)
    (hr : (execOp (Fr n f).eval ⟨none, op, ty, pos, aft, some (j, b)⟩).run P w = .ok .skip w')
    (h : WL P ops Q rest n f w') : WL P ops Q (⟨none, op, ty, pos, aft, some (j, b)⟩ :: rest) n f w := by
  rw [WL_def] at *
  unfold wpList
  rw [wanted_fr (b := b) (b' := b) rfl hj hlt hf]
  simp only [beq_self_eq_true, if_true]
  refine .inl ?_
  unfold Oper.wp; rw [hr]; simp only [Oper.upon_skip]
  exact h

theorem wanted_undef {o : Oper} {j dj : Nat} {b' : Bool} (hg : o.guard = some (j, b')) (hj : (ops[j]?).bind (·.dst) = some dj) (hlt : Nat.blt dj n = true) (hf : f dj = undef) :
    Region.wanted o (yielded ops (Fr n f).tmps) = false := by
  have h' : dj < n := Nat.le_of_ble_eq_true hlt
  have e : (Fr n f).tmps[dj]? = some undef := by simp [Fr, h', hf]
  have e2 : yielded ops (Fr n f).tmps j = none := by
    unfold yielded; rw [hj]; simp [e, undef]
  unfold Region.wanted
  rw [hg]; simp [e2]
/-- A guard that was passed over itself. -/
theorem G_und {j dj : Nat} {b : Bool} (hj : (ops[j]?).bind (·.dst) = some dj) (hlt : Nat.blt dj n = true) (hf : f dj = undef)
    (h : WL P ops Q rest n (upd f d undef) w) : WL P ops Q (⟨some d, op, ty, pos, aft, some (j, b)⟩ :: rest) n f w := by
  rw [WL_def] at *
  unfold wpList
  rw [wanted_undef rfl hj hlt hf]
  simp only [Bool.false_eq_true, if_false]
  rw [fr_put]; exact h

/-- A guard that says no. -/
theorem G_not {j dj : Nat} {b b' : Bool} (hj : (ops[j]?).bind (·.dst) = some dj) (hlt : Nat.blt dj n = true) (hf : f dj = .bool b') (hb : (b' == b) = false)
    (h : WL P ops Q rest n (upd f d undef) w) : WL P ops Q (⟨some d, op, ty, pos, aft, some (j, b)⟩ :: rest) n f w := by
  rw [WL_def] at *
  unfold wpList
  rw [wanted_fr (b := b') (b' := b) rfl hj hlt hf, hb]
  simp only [Bool.false_eq_true, if_false]
  rw [fr_put]; exact h
theorem G_not0 {j dj : Nat} {b b' : Bool} (hj : (ops[j]?).bind (·.dst) = some dj) (hlt : Nat.blt dj n = true) (hf : f dj = .bool b') (hb : (b' == b) = false)
    (h : WL P ops Q rest n f w) : WL P ops Q (⟨none, op, ty, pos, aft, some (j, b)⟩ :: rest) n f w := by
  rw [WL_def] at *
  unfold wpList
  rw [wanted_fr (b := b') (b' := b) rfl hj hlt hf, hb]
  simp only [Bool.false_eq_true, if_false]
  exact h
end

/-! ### a region whose order is left open -/
section
variable {P : Program} {ops : Array Oper} {Q : Exit → Act → World → Prop}

/-- Has no change that waits for 'i' come up yet? -/
def act (ops : Array Oper) (CH : List Nat) (listed : Array Bool) (i : Nat) : Bool := CH.all fun j => !(listed.getD j false && Region.waitsFor .any ops j i)
/-- What was read holds still, as long as nobody has come up who waits for the reading. -/
def SS (ops : Array Oper) (CH : List Nat) (LD : List (Nat × (World → Prop))) (listed : Array Bool) (w : World) : Prop := ∀ p ∈ LD, act ops CH listed p.1 = true → p.2 w

def wpAnyS (P : Program) (ops : Array Oper) (Q : Exit → Act → World → Prop) (CH : List Nat) (LD : List (Nat × (World → Prop))) : Nat → Array Bool → Act → World → Prop
  | 0, listed, a, w => Region.ready .any ops listed = [] ∧ Q .normal a w
  | fuel + 1, listed, a, w =>
    (Region.ready .any ops listed = [] → Q .normal a w) ∧
    ∀ i ∈ Region.ready .any ops listed, wpOp P ops Q i (fun a' w' => SS ops CH LD (listed.setIfInBounds i true) w' ∧ wpAnyS P ops Q CH LD fuel (listed.setIfInBounds i true) a' w') a w

theorem wpAny_of_S {CH : List Nat} {LD : List (Nat × (World → Prop))} : ∀ (fuel : Nat) (listed : Array Bool) (a : Act) (w : World), wpAnyS P ops Q CH LD fuel listed a w → wpAny P .any ops Q fuel listed a w
  | 0, _, _, _, h => h
  | fuel + 1, _, _, _, h => ⟨h.1, fun i hi => wpOp_mono (fun a' w' h' => wpAny_of_S fuel _ a' w' h'.2) (h.2 i hi)⟩

/-- More that is held still is more. -/
theorem wpAnyS_more {CH : List Nat} {LD : List (Nat × (World → Prop))} {p : Nat × (World → Prop)} : ∀ (fuel : Nat) (listed : Array Bool) (a : Act) (w : World), wpAnyS P ops Q CH (p :: LD) fuel listed a w → wpAnyS P ops Q CH LD fuel listed a w
  | 0, _, _, _, h => h
  | fuel + 1, _, _, _, h => ⟨h.1, fun i hi => wpOp_mono (fun a' w' h' => ⟨fun q hq => h'.1 q (List.mem_cons_of_mem _ hq), wpAnyS_more fuel _ a' w' h'.2⟩) (h.2 i hi)⟩

def Closed (ops : Array Oper) (listed : Array Bool) : Prop := ∀ j oj, ops[j]? = some oj → listed.getD j false = true → ∀ e ∈ oj.after, Region.binds .any e = true → listed.getD e.on false = true

theorem Closed.set {listed : Array Bool} {i : Nat} (h : Closed ops listed) (hi : i ∈ Region.ready .any ops listed) : Closed ops (listed.setIfInBounds i true) := by
  obtain ⟨_, oi, hoi, hall⟩ := mem_ready.1 hi
  intro j oj hj hl e he hb
  by_cases hij : i = j
  · subst hij
    have : oj = oi := Option.some.inj (hj.symm.trans hoi)
    subst this
    exact getD_set_true (hall e he hb)
  · rw [getD_set_ne false hij] at hl
    exact getD_set_true (h j oj hj hl e he hb)

theorem act_set {CH : List Nat} {listed : Array Bool} {i k : Nat} (hi : CH.contains i = false) : act ops CH (listed.setIfInBounds i true) k = act ops CH listed k := by
  unfold act
  have hne : ∀ j, j ∈ CH → i ≠ j := fun j hj e => by subst e; simp [hj] at hi
  induction CH with
  | nil => rfl
  | cons c cs ih =>
    simp only [List.all_cons]
    have hc : cs.contains i = false := by simp at hi; simpa using hi.2
    rw [getD_set_ne false (hne c (by simp)), ih hc (fun j hj => hne j (by simp [hj]))]

theorem act_unlisted {CH : List Nat} {listed : Array Bool} {i : Nat} (hc : Closed ops listed) (hu : listed.getD i true = false) : act ops CH listed i = true := by
  unfold act
  refine List.all_eq_true.2 fun j _ => ?_
  cases hl : listed.getD j false with
  | false => rfl
  | true =>
    cases hw : Region.waitsFor .any ops j i with
    | false => rfl
    | true =>
      obtain ⟨oj, hoj, e, he, hb, hon⟩ := Region.waitsFor_spec hw
      have h2 := hc j oj hoj hl e he hb
      rw [hon, getD_both hu] at h2
      cases h2

/-- Whoever reads, or reckons, may be taken first. -/
theorem wpAnyS_first {CH : List Nat} {LD : List (Nat × (World → Prop))} {Fc : World → Prop} {i : Nat} {oi : Oper} {v : Value} (hi : ops[i]? = some oi) (hsel : ∀ (j : Nat) (o : Oper) cs b, ops[j]? = some o → o.op ≠ .select cs b)
    (hQ : ∀ c a w, Q (.panic c) (a.put oi.dst v) w → Q (.panic c) a w) (hiC : CH.contains i = false) (hF : (i, Fc) ∈ LD ∨ ∀ w, Fc w) :
    ∀ (fuel : Nat) (listed : Array Bool) (a : Act) (w : World), Closed ops listed → Fc w →
      (∀ j oj, ops[j]? = some oj → j ≠ i → listed.getD j true = false → (∀ e ∈ oj.after, Region.binds .any e = true → e.on ≠ i) → oi.apart ops oj = true) →
      i ∈ Region.ready .any ops listed → YieldsIf P ops Fc oi v a → SS ops CH LD listed w →
      wpAnyS P ops Q CH LD fuel (listed.setIfInBounds i true) (a.put oi.dst v) w → wpAnyS P ops Q CH LD (fuel + 1) listed a w := by
  intro fuel
  induction fuel with
  | zero =>
    intro listed a w hcl hFw hfree hr hy hS H
    refine ⟨fun h => (by rw [h] at hr; cases hr), fun j hj => ?_⟩
    by_cases hji : j = i
    · subst hji
      exact hy.wpOp hi hFw ⟨fun p hp ha => hS p hp (by rwa [act_set hiC] at ha), H⟩
    · have := ready_mono hj hji
      rw [H.1] at this
      cases this
  | succ fuel ih =>
    intro listed a w hcl hFw hfree hr hy hS H
    refine ⟨fun h => (by rw [h] at hr; cases hr), fun j hj => ?_⟩
    by_cases hji : j = i
    · subst hji
      exact hy.wpOp hi hFw ⟨fun p hp ha => hS p hp (by rwa [act_set hiC] at ha), H⟩
    · have h1 := H.2 j (ready_mono hj hji)
      obtain ⟨hjun, oj, hoj, hall⟩ := mem_ready.1 hj
      have hnot : ∀ e ∈ oj.after, Region.binds .any e = true → e.on ≠ i := fun e he hb heq => by
        have h1 := hall e he hb
        have h0 := (mem_ready.1 hr).1
        rw [heq] at h1
        rcases Nat.lt_or_ge i listed.size with h' | h'
        · simp [h'] at h0 h1; rw [h0] at h1; cases h1
        · simp [Array.getElem?_eq_none h'] at h1
      have h2 := wpOp_putIf hoj (hfree j oj hoj hji hjun hnot) (fun cs b => hsel i oi cs b hi) (fun cs b => hsel j oj cs b hoj) hQ hy h1
      have hfree' : ∀ k ok, ops[k]? = some ok → k ≠ i → (listed.setIfInBounds j true).getD k true = false →
          (∀ e ∈ ok.after, Region.binds .any e = true → e.on ≠ i) → oi.apart ops ok = true := fun k ok hk hki hun hno => by
        refine hfree k ok hk hki ?_ hno
        by_cases hjk : j = k
        · subst hjk; exact hjun
        · rw [getD_set_ne true hjk] at hun; exact hun
      have hr' := ready_mono hr (Ne.symm hji)
      refine wpOp_mono (fun a' w' h3 => ?_) h2
      obtain ⟨hy', hS', H'⟩ := h3
      rw [Array.setIfInBounds_comm _ _ (Ne.symm hji)] at hS'
      have hS2 : SS ops CH LD (listed.setIfInBounds j true) w' := fun p hp ha => hS' p hp (by rw [act_set hiC]; exact ha)
      have hcl' := hcl.set hj
      have hF' : Fc w' := by
        rcases hF with h | h
        · exact hS2 _ h (act_unlisted hcl' (mem_ready.1 hr').1)
        · exact h w'
      refine ⟨hS2, ih (listed.setIfInBounds j true) a' w' hcl' hF' hfree' hr' hy' hS2 ?_⟩
      rw [Array.setIfInBounds_comm _ _ hji]
      exact H'

def closedB (ops : Array Oper) (listed : Array Bool) : Bool :=
  (List.range ops.size).all fun j => !(listed.getD j false) || ((ops[j]?).map fun o => o.after.all fun e => !Region.binds .any e || listed.getD e.on false).getD true

theorem closed_of_B {listed : Array Bool} (h : closedB ops listed = true) : Closed ops listed := by
  intro j oj hj hl e he hb
  have hlt : j < ops.size := (Array.getElem?_eq_some_iff.1 hj).1
  have := List.all_eq_true.1 h j (List.mem_range.2 hlt)
  rw [hj, hl] at this
  simp only [Bool.not_true, Option.map_some, Option.getD_some, Bool.false_or] at this
  have h2 := Array.all_eq_true'.1 this e he
  simpa [hb] using h2

/-- All that a step asks of the region's text. -/
def stepB (ops : Array Oper) (CH : List Nat) (listed : Array Bool) (i : Nat) : Bool :=
  closedB ops listed && Region.noSelect ops && Region.free .any ops listed i && (Region.ready .any ops listed).contains i && !CH.contains i

section
variable {CH : List Nat} {LD : List (Nat × (World → Prop))} {n fuel : Nat} {f : Nat → Value} {w : World} {listed : Array Bool} {i d : Nat} {op : Op} {ty : Nat} {pos : String} {aft : Array Edge} {g : Option (Nat × Bool)}

/-- Shut. -/
def WS (P : Program) (ops : Array Oper) (Q : Exit → Act → World → Prop) (CH : List Nat) (LD : List (Nat × (World → Prop))) (fuel : Nat) (listed : Array Bool) (n : Nat) (f : Nat → Value) (w : World) : Prop := wpAnyS P ops (NoPanic Q) CH LD fuel listed (Fr n f) w
theorem WS_def {n : Nat} {f : Nat → Value} {w : World} {CH : List Nat} {LD : List (Nat × (World → Prop))} {fuel : Nat} {listed : Array Bool} : WS P ops Q CH LD fuel listed n f w = wpAnyS P ops (NoPanic Q) CH LD fuel listed (Fr n f) w := rfl
attribute [irreducible] WS
def WO (P : Program) (ops : Array Oper) (Q : Exit → Act → World → Prop) (i : Nat) (K : (Nat → Value) → World → Prop) (n : Nat) (f : Nat → Value) (w : World) : Prop := wpOp P ops (NoPanic Q) i (fun a' w' => ∃ f', a' = Fr n f' ∧ K f' w') (Fr n f) w
theorem WO_def {i : Nat} {K : (Nat → Value) → World → Prop} {n : Nat} {f : Nat → Value} {w : World} : WO P ops Q i K n f w = wpOp P ops (NoPanic Q) i (fun a' w' => ∃ f', a' = Fr n f' ∧ K f' w') (Fr n f) w := rfl
attribute [irreducible] WO

theorem D_start {id : Nat} {nops : Nat} (hm : P.follows .mixedOrders = true) (hn : ops.size = nops) (CH : List Nat)
    (h : WS P ops Q CH [] nops (Array.replicate nops false) n f w.drew) : WC P (.region id ops true) Q n f w := by
  rw [WS_def] at h; rw [WC_def]; exact   wp_region_noPanic (wp_region_any hm (by rw [hn]; exact wpAny_of_S _ _ _ _ h))

/-- A copy, a sum, an address: whatever the world. -/
theorem D_pure {v : Value} (hi : ops[i]? = some ⟨some d, op, ty, pos, aft, g⟩) (hB : stepB ops CH listed i = true)
    (hw : Region.wanted ⟨some d, op, ty, pos, aft, g⟩ (yielded ops (Fr n f).tmps) = true) (hr : ∀ w, (execOp (Fr n f).eval ⟨some d, op, ty, pos, aft, g⟩).run P w = .ok (.value v) w) (hS : SS ops CH LD listed w)
    (h : SS ops CH LD (listed.setIfInBounds i true) w → WS P ops Q CH LD fuel (listed.setIfInBounds i true) n (upd f d v) w) : WS P ops Q CH LD (fuel + 1) listed n f w := by
  rw [WS_def]
  simp only [WS_def] at h
  simp only [stepB, Bool.and_eq_true] at hB
  obtain ⟨⟨⟨⟨h1, h2⟩, h3⟩, h4⟩, h5⟩ := hB
  have hiC : CH.contains i = false := by simpa using h5
  refine wpAnyS_first (Fc := fun _ => True) hi (Region.noSelect_spec h2) (fun _ _ _ h => h) hiC (.inr fun _ => trivial) fuel listed _ w (closed_of_B h1) trivial
    (Region.free_spec hi h3) (by simpa using h4) (.inl ⟨hw, fun w _ => hr w⟩) hS ?_
  show wpAnyS P ops (NoPanic Q) CH LD fuel (listed.setIfInBounds i true) ((Fr n f).put (some d) v) w
  rw [fr_put]
  exact h fun p hp ha => hS p hp (by rwa [act_set hiC] at ha)

/-- A guard that says no. -/
theorem D_not (hi : ops[i]? = some ⟨some d, op, ty, pos, aft, g⟩) (hB : stepB ops CH listed i = true)
    (hw : Region.wanted ⟨some d, op, ty, pos, aft, g⟩ (yielded ops (Fr n f).tmps) = false) (hS : SS ops CH LD listed w)
    (h : SS ops CH LD (listed.setIfInBounds i true) w → WS P ops Q CH LD fuel (listed.setIfInBounds i true) n (upd f d undef) w) : WS P ops Q CH LD (fuel + 1) listed n f w := by
  rw [WS_def]
  simp only [WS_def] at h
  simp only [stepB, Bool.and_eq_true] at hB
  obtain ⟨⟨⟨⟨h1, h2⟩, h3⟩, h4⟩, h5⟩ := hB
  have hiC : CH.contains i = false := by simpa using h5
  refine wpAnyS_first (Fc := fun _ => True) hi (Region.noSelect_spec h2) (fun _ _ _ h => h) hiC (.inr fun _ => trivial) fuel listed _ w (closed_of_B h1) trivial
    (Region.free_spec hi h3) (by simpa using h4) (.inr ⟨hw, rfl⟩) hS ?_
  show wpAnyS P ops (NoPanic Q) CH LD fuel (listed.setIfInBounds i true) ((Fr n f).put (some d) undef) w
  rw [fr_put]
  exact h fun p hp ha => hS p hp (by rwa [act_set hiC] at ha)

/-- A reading: what it read is held still from here on. -/
theorem D_read {v : Value} (hi : ops[i]? = some ⟨some d, op, ty, pos, aft, g⟩) (hB : stepB ops CH listed i = true)
    (hw : Region.wanted ⟨some d, op, ty, pos, aft, g⟩ (yielded ops (Fr n f).tmps) = true) (Fc : World → Prop) (hF : Fc w) (hr : ∀ w, Fc w → (execOp (Fr n f).eval ⟨some d, op, ty, pos, aft, g⟩).run P w = .ok (.value v) w) (hS : SS ops CH LD listed w)
    (h : SS ops CH ((i, Fc) :: LD) (listed.setIfInBounds i true) w → WS P ops Q CH ((i, Fc) :: LD) fuel (listed.setIfInBounds i true) n (upd f d v) w) : WS P ops Q CH LD (fuel + 1) listed n f w := by
  rw [WS_def]
  simp only [WS_def] at h
  simp only [stepB, Bool.and_eq_true] at hB
  obtain ⟨⟨⟨⟨h1, h2⟩, h3⟩, h4⟩, h5⟩ := hB
  have hiC : CH.contains i = false := by simpa using h5
  have hS' : SS ops CH ((i, Fc) :: LD) listed w := fun p hp ha => by
    rcases List.mem_cons.1 hp with rfl | hp
    · exact hF
    · exact hS p hp ha
  refine wpAnyS_more (p := (i, Fc)) _ _ _ _ ?_
  refine wpAnyS_first (Fc := Fc) hi (Region.noSelect_spec h2) (fun _ _ _ h => h) hiC (.inl (List.mem_cons_self ..)) fuel listed _ w (closed_of_B h1) hF
    (Region.free_spec hi h3) (by simpa using h4) (.inl ⟨hw, hr⟩) hS' ?_
  show wpAnyS P ops (NoPanic Q) CH ((i, Fc) :: LD) fuel (listed.setIfInBounds i true) ((Fr n f).put (some d) v) w
  rw [fr_put]
  exact h fun p hp ha => hS' p hp (by rwa [act_set hiC] at ha)

/-- Whoever alone may come up now. -/
theorem D_only {o : Oper} (hr : Region.ready .any ops listed = [i]) (hi : ops[i]? = some o)
    (h : WO P ops Q i (fun f' w' => SS ops CH LD (listed.setIfInBounds i true) w' ∧ WS P ops Q CH LD fuel (listed.setIfInBounds i true) n f' w') n f w) :
    WS P ops Q CH LD (fuel + 1) listed n f w := by
  rw [WS_def]; rw [WO_def] at h
  refine ⟨fun h0 => (by rw [hr] at h0; cases h0), fun j hj => ?_⟩
  rw [hr] at hj; obtain rfl : j = i := by simpa using hj
  refine wpOp_mono (fun a' w' h' => ?_) h
  obtain ⟨f', rfl, hs, h'⟩ := h'
  rw [WS_def] at h'; exact ⟨hs, h'⟩

/-- Several may come up. -/
theorem D_all {rs : List Nat} (hr : Region.ready .any ops listed = rs) (hne : rs.isEmpty = false)
    (h : ∀ i ∈ rs, WO P ops Q i (fun f' w' => SS ops CH LD (listed.setIfInBounds i true) w' ∧ WS P ops Q CH LD fuel (listed.setIfInBounds i true) n f' w') n f w) :
    WS P ops Q CH LD (fuel + 1) listed n f w := by
  rw [WS_def]
  refine ⟨fun h0 => (by rw [h0] at hr; subst hr; cases hne), fun j hj => ?_⟩
  have h2 := h j (hr ▸ hj)
  rw [WO_def] at h2
  refine wpOp_mono (fun a' w' h' => ?_) h2
  obtain ⟨f', rfl, hs, h'⟩ := h'
  rw [WS_def] at h'; exact ⟨hs, h'⟩

theorem O_val {K : (Nat → Value) → World → Prop} {v : Value} {w' : World} (hi : ops[i]? = some ⟨some d, op, ty, pos, aft, g⟩)
    (hw : Region.wanted ⟨some d, op, ty, pos, aft, g⟩ (yielded ops (Fr n f).tmps) = true) (hr : (execOp (Fr n f).eval ⟨some d, op, ty, pos, aft, g⟩).run P w = .ok (.value v) w')
    (h : K (upd f d v) w') : WO P ops Q i K n f w := by
  rw [WO_def]
  unfold wpOp
  simp only [hi, hw, if_true]
  refine .inl ?_
  unfold Oper.wp; rw [hr]; simp only [Oper.upon_value]
  rw [fr_put]; exact ⟨_, rfl, h⟩

theorem O_skip {K : (Nat → Value) → World → Prop} {w' : World} (hi : ops[i]? = some ⟨none, op, ty, pos, aft, g⟩)
    (hw : Region.wanted ⟨none, op, ty, pos, aft, g⟩ (yielded ops (Fr n f).tmps) = true) (hr : (execOp (Fr n f).eval ⟨none, op, ty, pos, aft, g⟩).run P w = .ok .skip w')
    (h : K f w') : WO P ops Q i K n f w := by
  rw [WO_def]
  unfold wpOp
  simp only [hi, hw, if_true]
  refine .inl ?_
  unfold Oper.wp; rw [hr]; simp only [Oper.upon_skip]
  exact ⟨_, rfl, h⟩

theorem O_valn {K : (Nat → Value) → World → Prop} {v : Value} {w' : World} (hi : ops[i]? = some ⟨none, op, ty, pos, aft, g⟩)
    (hw : Region.wanted ⟨none, op, ty, pos, aft, g⟩ (yielded ops (Fr n f).tmps) = true) (hr : (execOp (Fr n f).eval ⟨none, op, ty, pos, aft, g⟩).run P w = .ok (.value v) w')
    (h : K f w') : WO P ops Q i K n f w := by
  rw [WO_def]
  unfold wpOp
  simp only [hi, hw, if_true]
  refine .inl ?_
  unfold Oper.wp; rw [hr]; simp only [Oper.upon_value]
  exact ⟨_, rfl, h⟩

theorem O_not {K : (Nat → Value) → World → Prop} (hi : ops[i]? = some ⟨some d, op, ty, pos, aft, g⟩)
    (hw : Region.wanted ⟨some d, op, ty, pos, aft, g⟩ (yielded ops (Fr n f).tmps) = false) (h : K (upd f d undef) w) : WO P ops Q i K n f w := by
  rw [WO_def]
  unfold wpOp
  simp only [hi, hw, Bool.false_eq_true, if_false]
  rw [fr_put]; exact ⟨_, rfl, h⟩

theorem O_call {K : (Nat → Value) → World → Prop} {k : Nat} {args : Array Value} (hi : ops[i]? = some ⟨some d, op, ty, pos, aft, g⟩)
    (hw : Region.wanted ⟨some d, op, ty, pos, aft, g⟩ (yielded ops (Fr n f).tmps) = true) (hr : (execOp (Fr n f).eval ⟨some d, op, ty, pos, aft, g⟩).run P w = .ok (.enter k args) w)
    (h : Calls P k args w fun e w' => ∃ v, e = .returned v ∧ K (upd f d v) w') : WO P ops Q i K n f w := by
  rw [WO_def]
  unfold wpOp
  simp only [hi, hw, if_true]
  refine .inl ?_
  unfold Oper.wp; rw [hr]; simp only [Oper.upon_enter]
  refine Calls.mono h ?_
  rintro e w' ⟨v, rfl, h'⟩
  show ∃ f', (Fr n f).put (some d) v = Fr n f' ∧ K f' w'
  rw [fr_put]; exact ⟨_, rfl, h'⟩

theorem D_done (hr : Region.ready .any ops listed = []) (h : Q .normal (Fr n f) w) : WS P ops Q CH LD fuel listed n f w := by
  rw [WS_def]
  cases fuel with
  | zero => exact ⟨hr, h⟩
  | succ k => exact ⟨fun _ => h, by rw [hr]; simp⟩

theorem SS_init : SS ops CH [] listed w := fun _ h => by cases h
theorem SS_nil : SS ops CH [] listed w := fun _ h => by cases h
theorem SS_on {p : Nat × (World → Prop)} (h : p.2 w) (hs : SS ops CH LD listed w) : SS ops CH (p :: LD) listed w := fun q hq ha => by
  rcases List.mem_cons.1 hq with rfl | hq
  · exact h
  · exact hs q hq ha
theorem SS_off {p : Nat × (World → Prop)} (h : act ops CH listed p.1 = false) (hs : SS ops CH LD listed w) : SS ops CH (p :: LD) listed w := fun q hq ha => by
  rcases List.mem_cons.1 hq with rfl | hq
  · rw [h] at ha; cases ha
  · exact hs q hq ha
theorem W_und {o : Oper} {j dj : Nat} {b : Bool} (hg : o.guard = some (j, b)) (hj : (ops[j]?).bind (·.dst) = some dj) (hlt : Nat.blt dj n = true) (hf : f dj = undef) :
    Region.wanted o (yielded ops (Fr n f).tmps) = false := wanted_undef hg hj hlt hf
theorem W_none {ob : Oper} {y : Nat → Option Bool} (h : ob.guard = none) : Region.wanted ob y = true := by simp [Region.wanted, h]
theorem W_yes {o : Oper} {j dj : Nat} {b : Bool} (hg : o.guard = some (j, b)) (hj : (ops[j]?).bind (·.dst) = some dj) (hlt : Nat.blt dj n = true) (hf : f dj = .bool b) :
    Region.wanted o (yielded ops (Fr n f).tmps) = true := by rw [wanted_fr hg hj hlt hf]; simp
theorem W_no {o : Oper} {j dj : Nat} {b b' : Bool} (hg : o.guard = some (j, b)) (hj : (ops[j]?).bind (·.dst) = some dj) (hlt : Nat.blt dj n = true) (hf : f dj = .bool b') (hb : (b' == b) = false) :
    Region.wanted o (yielded ops (Fr n f).tmps) = false := by rw [wanted_fr hg hj hlt hf, hb]
end
end

end Go.Vc
