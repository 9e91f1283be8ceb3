/-
  Memory by blocks: what is held for good ('Im'), what is owned and may turn ('L'); maps as lists of keys and values.
-/
import Derived.Test.YtmffnjdndhkbhaaVcOps
namespace Go.Vc
open Go

abbrev Mem := Nat → Option Obj
def Mem.le (a b : Mem) : Prop := ∀ k o, a k = some o → b k = some o
def Mem.add (a : Mem) (k : Nat) (o : Obj) : Mem := fun i => if i = k then some o else a i
theorem Mem.le_refl (a : Mem) : a.le a := fun _ _ h => h
theorem Mem.le_trans {a b c : Mem} (h : a.le b) (k : b.le c) : a.le c := fun i o x => k i o (h i o x)
theorem Mem.le_add {a : Mem} {k : Nat} {o : Obj} (h : a k = none) : a.le (a.add k o) := fun i x hx => by
  unfold Mem.add
  by_cases e : i = k
  · subst e; rw [h] at hx; cases hx
  · rw [if_neg e]; exact hx

theorem nodup_inj {α : Type} {l : List α} (h : l.Nodup) {i j : Nat} (hi : i < l.length) (hj : j < l.length) (e : l[i] = l[j]) : i = j := by
  rcases Nat.lt_trichotomy i j with h1 | h1 | h1
  · exact absurd e (List.pairwise_iff_getElem.1 h i j hi hj h1)
  · exact h1
  · exact absurd e.symm (List.pairwise_iff_getElem.1 h j i hj hi h1)
theorem set_self {α : Type} {l : List α} {i : Nat} {x : α} (h : l[i]? = some x) : l.set i x = l := by
  apply List.ext_getElem?
  intro j
  rw [List.getElem?_set]
  by_cases e : i = j
  · subst e
    have := (List.getElem?_eq_some_iff.1 h).1
    rw [if_pos rfl, if_pos this, h]
  · simp [e]

structure Own (w0 : World) (Im : Mem) (w : World) (L : List (Nat × Obj)) : Prop where
  os : w.os = w0.os
  tape : w.tape = w0.tape
  out : w.output = w0.output
  size : w0.heap.size ≤ w.heap.size
  im : ∀ k o, Im k = some o → w.heap[k]? = some o
  nd : (L.map Prod.fst).Nodup
  own : ∀ p ∈ L, w.heap[p.1]? = some p.2
  apart : ∀ p ∈ L, Im p.1 = none

section
variable {w0 w : World} {Im : Mem} {L : List (Nat × Obj)}

theorem Own.drew (h : Own w0 Im w L) : Own w0 Im w.drew L := ⟨h.os, h.tape, h.out, h.size, h.im, h.nd, h.own, h.apart⟩
theorem Own.drawn (h : Own w0 Im w L) {n : Nat} : Own w0 Im { w with drawn := n } L := ⟨h.os, h.tape, h.out, h.size, h.im, h.nd, h.own, h.apart⟩

theorem Own.get (h : Own w0 Im w L) (i : Nat) {b : Nat} {o : Obj} (hi : L[i]? = some (b, o)) : w.heap[b]? = some o :=
  h.own (b, o) (List.mem_of_getElem? hi)
theorem Own.mem (h : Own w0 Im w L) {b : Nat} {o : Obj} (hi : (b, o) ∈ L) : w.heap[b]? = some o := h.own (b, o) hi

theorem cell_of {w : World} {b : Nat} {cs : Array Value} {T : Nat} {z : Nat × Nat} (h : w.heap[b]? = some (.cells cs T z)) (k : Nat) : w.cell? ⟨b, k, none⟩ = cs[k]? := by
  simp [World.cell?, h]
theorem frozen_of {w : World} {b : Nat} {cs : Array Value} {T : Nat} (h : w.heap[b]? = some (.cells cs T (0, 0))) (k : Nat) : w.frozen? ⟨b, k, none⟩ = false := by
  simp [World.frozen?, h]

theorem Own.cell (h : Own w0 Im w L) (i : Nat) {b : Nat} {cs : Array Value} {T : Nat} {z : Nat × Nat} (hi : L[i]? = some (b, .cells cs T z)) (k : Nat) : w.cell? ⟨b, k, none⟩ = cs[k]? := cell_of (h.get i hi) k
theorem Own.frozen (h : Own w0 Im w L) (i : Nat) {b : Nat} {cs : Array Value} {T : Nat} (hi : L[i]? = some (b, .cells cs T (0, 0))) (k : Nat) : w.frozen? ⟨b, k, none⟩ = false := frozen_of (h.get i hi) k

theorem lt_of_heap {w : World} {b : Nat} {o : Obj} (h : w.heap[b]? = some o) : b < w.heap.size := (Array.getElem?_eq_some_iff.1 h).1

/-- One owned block is another one. -/
theorem Own.turn {w' : World} (h : Own w0 Im w L) (i : Nat) {b : Nat} {o o' : Obj} (hi : L[i]? = some (b, o)) (hos : w'.os = w.os) (ht : w'.tape = w.tape) (ho : w'.output = w.output) (hs : w'.heap.size = w.heap.size)
    (hb : w'.heap[b]? = some o') (hx : ∀ k, k ≠ b → w'.heap[k]? = w.heap[k]?) : Own w0 Im w' (L.set i (b, o')) := by
  have hlt : i < L.length := (List.getElem?_eq_some_iff.1 hi).1
  have hLi : L[i] = (b, o) := (List.getElem?_eq_some_iff.1 hi).2
  have hkeys : (L.set i (b, o')).map Prod.fst = L.map Prod.fst := by
    rw [List.map_set]
    have : (L.map Prod.fst)[i]? = some b := by rw [List.getElem?_map, hi]; rfl
    exact set_self this
  refine ⟨hos.trans h.os, ht.trans h.tape, ho.trans h.out, by rw [hs]; exact h.size, ?_, by rw [hkeys]; exact h.nd, ?_, ?_⟩
  · intro k x hk
    have hne : k ≠ b := by
      rintro rfl
      have := h.apart _ (List.mem_of_getElem? hi)
      rw [this] at hk; cases hk
    rw [hx k hne]; exact h.im k x hk
  · intro p hp
    obtain ⟨j, hj, hpj⟩ := List.mem_iff_getElem.1 hp
    have hj' : j < L.length := by simpa using hj
    by_cases hij : i = j
    · subst hij
      simp at hpj
      rw [← hpj]; exact hb
    · have hpj' : L[j] = p := by rw [List.getElem_set_ne hij] at hpj; exact hpj
      have hpm : p ∈ L := hpj' ▸ List.getElem_mem hj'
      have hne : p.1 ≠ b := by
        intro e
        have h1 : (L.map Prod.fst)[i]'(by simpa using hlt) = b := by simp [hLi]
        have h2 : (L.map Prod.fst)[j]'(by simpa using hj') = b := by simp [hpj', e]
        exact hij (nodup_inj h.nd _ _ (h1.trans h2.symm))
      rw [hx _ hne]; exact h.own p hpm
  · intro p hp
    have : p.1 ∈ (L.set i (b, o')).map Prod.fst := List.mem_map_of_mem hp
    rw [hkeys] at this
    obtain ⟨q, hq, e⟩ := List.mem_map.1 this
    rw [← e]; exact h.apart q hq

theorem heap_setCell {w : World} {b k : Nat} {v : Value} {cs : Array Value} {T : Nat} {z : Nat × Nat} (h : w.heap[b]? = some (.cells cs T z)) : (w.setCell ⟨b, k, none⟩ v).heap[b]? = some (.cells (cs.setIfInBounds k v) T z) := by
  simp [World.setCell, Array.getElem?_modify, h]
theorem heap_setCell_ne {w : World} {b k j : Nat} {v : Value} (h : j ≠ b) : (w.setCell ⟨b, k, none⟩ v).heap[j]? = w.heap[j]? := by
  simp [World.setCell, Array.getElem?_modify, Ne.symm h]

theorem Own.set (h : Own w0 Im w L) (i : Nat) {b : Nat} {cs : Array Value} {T : Nat} {z : Nat × Nat} (hi : L[i]? = some (b, .cells cs T z)) (k : Nat) (v : Value) :
    Own w0 Im (w.setCell ⟨b, k, none⟩ v) (L.set i (b, .cells (cs.setIfInBounds k v) T z)) :=
  h.turn i hi rfl rfl rfl (by simp [World.setCell]) (heap_setCell (h.get i hi)) (fun _ hk => heap_setCell_ne hk)

theorem Own.setObj (h : Own w0 Im w L) (i : Nat) {b : Nat} {o o' : Obj} (hi : L[i]? = some (b, o)) : Own w0 Im { w with heap := w.heap.setIfInBounds b o' } (L.set i (b, o')) := by
  have hlt := lt_of_heap (h.get i hi)
  refine h.turn i hi rfl rfl rfl (by simp) (by simp [hlt]) (fun k hk => ?_)
  simp [Ne.symm hk]

theorem heap_alloc {w : World} {o : Obj} : (w.alloc o).heap[w.heap.size]? = some o := by
  show (w.heap.push o)[w.heap.size]? = some o
  simp
theorem heap_alloc_old {w : World} {o x : Obj} {k : Nat} (h : w.heap[k]? = some x) : (w.alloc o).heap[k]? = some x := by
  have hlt := lt_of_heap h
  show (w.heap.push o)[k]? = some x
  rw [Array.getElem?_push, if_neg (by omega)]; exact h

theorem cell_alloc {w : World} {o : Obj} {a : Addr} {v : Value} (h : w.cell? a = some v) : (w.alloc o).cell? a = some v := by
  cases hb : w.heap[a.block]? with
  | none => simp [World.cell?, hb] at h
  | some x =>
    have h2 := heap_alloc_old (o := o) hb
    have e : (w.alloc o).cell? a = w.cell? a := World.cell?_of_block (h2.trans hb.symm)
    rw [e]; exact h
theorem CellsAt.alloc {w : World} {o : Obj} {a : Addr} {vs : List Value} (h : CellsAt w a vs) : CellsAt (w.alloc o) a vs := fun j v hj => cell_alloc (h j v hj)

theorem Own.fresh (h : Own w0 Im w L) {b : Nat} (hb : w.heap.size ≤ b) : Im b = none ∧ b ∉ L.map Prod.fst := by
  refine ⟨?_, fun hm => ?_⟩
  · cases e : Im b with
    | none => rfl
    | some o => have := lt_of_heap (h.im b o e); omega
  · obtain ⟨p, hp, e⟩ := List.mem_map.1 hm
    have := lt_of_heap (h.own p hp)
    omega

theorem Own.alloc (h : Own w0 Im w L) (o : Obj) : Own w0 Im (w.alloc o) ((w.heap.size, o) :: L) := by
  have hf := h.fresh (Nat.le_refl _)
  refine ⟨h.os, h.tape, h.out, Nat.le_trans h.size (by show _ ≤ (w.heap.push o).size; simp), fun k x hk => heap_alloc_old (h.im k x hk), ?_, ?_, ?_⟩
  · simp only [List.map_cons, List.nodup_cons]; exact ⟨hf.2, h.nd⟩
  · intro p hp
    rcases List.mem_cons.1 hp with rfl | hp
    · exact heap_alloc
    · exact heap_alloc_old (h.own p hp)
  · intro p hp
    rcases List.mem_cons.1 hp with rfl | hp
    · exact hf.1
    · exact h.apart p hp

/-- With the walk's own equations. -/
theorem Own.alloc' (h : Own w0 Im w L) {b : Nat} {w1 : World} {o : Obj} (hb : b = w.heapSize) (hw : w1 = w.alloc o) : Own w0 Im w1 ((b, o) :: L) := by
  subst hb hw; exact h.alloc o

theorem Own.perm (h : Own w0 Im w L) {L' : List (Nat × Obj)} (hp : L.Perm L') : Own w0 Im w L' :=
  ⟨h.os, h.tape, h.out, h.size, h.im, (hp.map Prod.fst).nodup_iff.1 h.nd, fun p hm => h.own p (hp.mem_iff.2 hm), fun p hm => h.apart p (hp.mem_iff.2 hm)⟩
theorem Own.sub (h : Own w0 Im w L) {L' : List (Nat × Obj)} (hs : L'.Sublist L) : Own w0 Im w L' :=
  ⟨h.os, h.tape, h.out, h.size, h.im, (hs.map Prod.fst).nodup h.nd, fun p hm => h.own p (hs.subset hm), fun p hm => h.apart p (hs.subset hm)⟩
theorem Own.tail (h : Own w0 Im w L) {x : Nat × Obj} {l : List (Nat × Obj)} (e : L = x :: l) : Own w0 Im w l := by subst e; exact h.sub (List.sublist_cons_self x l)

/-- What is never turned again is held for good. -/
theorem Own.hold {b : Nat} {o : Obj} (h : Own w0 Im w ((b, o) :: L)) : Own w0 (Im.add b o) w L ∧ Im.le (Im.add b o) := by
  have hb : Im b = none := h.apart (b, o) (List.mem_cons_self ..)
  have hnd := h.nd
  simp only [List.map_cons, List.nodup_cons] at hnd
  refine ⟨⟨h.os, h.tape, h.out, h.size, ?_, hnd.2, fun p hp => h.own p (List.mem_cons_of_mem _ hp), ?_⟩, Mem.le_add hb⟩
  · intro k x hk
    unfold Mem.add at hk
    by_cases e : k = b
    · subst e; rw [if_pos rfl] at hk; cases hk; exact h.own (k, o) (List.mem_cons_self ..)
    · rw [if_neg e] at hk; exact h.im k x hk
  · intro p hp
    unfold Mem.add
    rw [if_neg (fun e : p.1 = b => hnd.1 (e ▸ List.mem_map_of_mem hp))]
    exact h.apart p (List.mem_cons_of_mem _ hp)
theorem Own.less (h : Own w0 Im w L) {Im' : Mem} (hl : Im'.le Im) : Own w0 Im' w L :=
  ⟨h.os, h.tape, h.out, h.size, fun k o hk => h.im k o (hl k o hk), h.nd, h.own, fun p hp => by
    cases e : Im' p.1 with
    | none => rfl
    | some o => have h1 := hl _ _ e; rw [h.apart p hp] at h1; cases h1⟩

/-- The beginning: all that is there is held for good. -/
theorem Own.start (w : World) : Own w (fun k => w.heap[k]?) w [] :=
  ⟨rfl, rfl, rfl, Nat.le_refl _, fun _ _ h => h, List.nodup_nil, fun _ h => absurd h List.not_mem_nil, fun _ h => absurd h List.not_mem_nil⟩

/-- The end. -/
theorem Own.below (h : Own w0 Im w L) (hl : Mem.le (fun k => w0.heap[k]?) Im) : Go.RowKit.Below w0.heap.size w0 w :=
  ⟨h.os, h.tape, h.out, h.size, fun k hk => by
    have e : w0.heap[k]? = some w0.heap[k] := by simp [hk]
    rw [h.im k _ (hl k _ e), e]⟩
end

theorem perm_l {α : Type} (A V F : List α) : (A ++ (V ++ F)).Perm (V ++ (A ++ F)) := by
  rw [← List.append_assoc, ← List.append_assoc]
  exact List.perm_append_comm.append_right F
def setMany (cs : Array Value) : Nat → List Value → Array Value
  | _, [] => cs
  | i, v :: vs => setMany (cs.setIfInBounds i v) (i + 1) vs
theorem Own.put {w0 : World} {Im : Mem} {b T : Nat} {z : Nat × Nat} (vs : List Value) : ∀ {w : World} {L : List (Nat × Obj)} {cs : Array Value} (k o : Nat) , Own w0 Im w L → L[k]? = some (b, .cells cs T z) → ∀ j,
    Own w0 Im (putCells w ⟨b, o, none⟩ vs j) (L.set k (b, .cells (setMany cs (o + j) vs) T z)) := by
  induction vs with
  | nil => intro w L cs k o h hk j; simp only [putCells, setMany]; rw [set_self hk]; exact h
  | cons v vs ih =>
    intro w L cs k o h hk j
    simp only [putCells, setMany]
    rw [add_none]
    have h1 := h.set k hk (o + j) v
    have hlt := (List.getElem?_eq_some_iff.1 hk).1
    have h2 := ih k o h1 (by rw [List.getElem?_set_self hlt]) (j + 1)
    rw [List.set_set] at h2
    exact h2
theorem Own.putOk {w0 w : World} {Im : Mem} {L : List (Nat × Obj)} (h : Own w0 Im w L) (i : Nat) {b T o n : Nat} {cs : Array Value} (hi : L[i]? = some (b, .cells cs T (0, 0))) (hn : o + n ≤ cs.size) :
    ∀ j, j < n → (w.cell? (Addr.add ⟨b, o, none⟩ j)).isSome = true ∧ w.frozen? (Addr.add ⟨b, o, none⟩ j) = false := by
  intro j hj
  rw [add_none, h.cell i hi, h.frozen i hi]
  have : o + j < cs.size := by omega
  exact ⟨by simp [this], rfl⟩
theorem Own.cellsAt {w0 w : World} {Im : Mem} {L : List (Nat × Obj)} (h : Own w0 Im w L) (i : Nat) {b T o : Nat} {cs : Array Value} {z : Nat × Nat} (hi : L[i]? = some (b, .cells cs T z)) {vs : List Value} (hv : ∀ j v, vs[j]? = some v → cs[o + j]? = some v) : CellsAt w ⟨b, o, none⟩ vs := by
  intro j v hj
  rw [add_none, h.cell i hi]; exact hv j v hj

/-! ### maps -/
theorem map_eraseIdx {α β : Type} (f : α → β) : ∀ (l : List α) (i : Nat), (l.map f).eraseIdx i = (l.eraseIdx i).map f
  | [], _ => rfl
  | _ :: _, 0 => rfl
  | _ :: l, i + 1 => by simp only [List.map_cons, List.eraseIdx_cons_succ, map_eraseIdx f l i]
section
variable {α : Type} [DecidableEq α] (enc : α → Value)
/-- An entry: a key, a value, when it was born. -/
abbrev Ent (α : Type) := α × Value × Nat
def toEnt (e : Ent α) : MapEntry := { key := enc e.1, val := e.2.1, born := e.2.2 }
def mapObj (M : List (Ent α)) (clk : Nat) : Obj := .map (M.map (toEnt enc)).toArray clk
/-- The first of a key, and where. -/
def afind (a : α) : List (Ent α) → Nat → Option (Nat × Value)
  | [], _ => none
  | e :: l, i => if a = e.1 then some (i, e.2.1) else afind a l (i + 1)
def aget (M : List (Ent α)) (a : α) : Option Value := (afind a M 0).map (·.2)

structure KeyLaw (P : Program) (K : TypeId) : Prop where
  check : ∀ (e : Bool) (w : World) (a : α), (Instr.checkKey e 10000 K (enc a)).run P w = .ok () w
  find : ∀ (w : World) (a : α) (l : List (Ent α)), (Instr.findKey K (enc a) (l.map (toEnt enc))).run P w = .ok (afind a l 0) w
  stays : ∀ (w : World) (a : α), (Instr.keyThatStays (enc a) (enc a)).run P w = .ok (enc a) w

theorem afind_some {a : α} {l : List (Ent α)} : ∀ {k i : Nat} {v : Value}, afind a l k = some (i, v) → k ≤ i ∧ ∃ h : i - k < l.length, l[i - k].1 = a ∧ l[i - k].2.1 = v := by
  induction l with
  | nil => intro k i v h; cases h
  | cons e l ih =>
    intro k i v h
    unfold afind at h
    by_cases ha : a = e.1
    · rw [if_pos ha] at h
      simp only [Option.some.injEq, Prod.mk.injEq] at h
      obtain ⟨rfl, rfl⟩ := h
      exact ⟨Nat.le_refl _, by simp, by simp [ha], by simp⟩
    · rw [if_neg ha] at h
      obtain ⟨h1, h2, h3, h4⟩ := ih h
      have e1 : i - k = (i - (k + 1)) + 1 := by omega
      refine ⟨by omega, by simp; omega, ?_, ?_⟩
      · simp only [e1, List.getElem_cons_succ]; exact h3
      · simp only [e1, List.getElem_cons_succ]; exact h4
theorem afind_none {a : α} {l : List (Ent α)} : ∀ {k : Nat}, afind a l k = none ↔ a ∉ l.map (·.1) := by
  induction l with
  | nil => intro k; simp [afind]
  | cons e l ih =>
    intro k
    unfold afind
    by_cases ha : a = e.1
    · simp [ha]
    · simp only [if_neg ha, ih, List.map_cons, List.mem_cons, not_or]
      exact ⟨fun h => ⟨ha, h⟩, fun h => h.2⟩
theorem aget_none {a : α} {M : List (Ent α)} : aget M a = none ↔ a ∉ M.map (·.1) := by
  unfold aget; rw [Option.map_eq_none_iff]; exact afind_none
theorem afind_shift {a : α} {l : List (Ent α)} : ∀ (k : Nat), (afind a l k).map (·.2) = (afind a l 0).map (·.2) := by
  induction l with
  | nil => intro k; rfl
  | cons e l ih =>
    intro k
    unfold afind
    by_cases ha : a = e.1
    · simp [ha]
    · simp only [if_neg ha]; rw [ih (k + 1), ih (0 + 1)]
theorem aget_cons {a : α} {e : Ent α} {l : List (Ent α)} : aget (e :: l) a = if a = e.1 then some e.2.1 else aget l a := by
  unfold aget
  rw [afind]
  by_cases ha : a = e.1
  · simp [ha]
  · simp only [if_neg ha]; exact afind_shift _
theorem aget_nil {a : α} : aget ([] : List (Ent α)) a = none := rfl
theorem aget_append {a : α} {l m : List (Ent α)} : aget (l ++ m) a = (aget l a).orElse fun _ => aget m a := by
  induction l with
  | nil => simp [aget_nil]
  | cons e l ih =>
    simp only [List.cons_append, aget_cons, ih]
    by_cases ha : a = e.1 <;> simp [ha]

/-- 'm[k] = v'. -/
def aput (M : List (Ent α)) (clk : Nat) (a : α) (v : Value) : List (Ent α) × Nat :=
  if a ∈ M.map (·.1) then (M.map fun e => if e.1 = a then (a, v, e.2.2) else e, clk) else (M ++ [(a, v, clk)], clk + 1)
/-- 'delete(m, k)'. -/
def adel (M : List (Ent α)) (a : α) : List (Ent α) := M.filter fun e => decide (e.1 ≠ a)

theorem aget_put {M : List (Ent α)} {clk : Nat} {a b : α} {v : Value} : aget (aput M clk a v).1 b = if b = a then some v else aget M b := by
  unfold aput
  by_cases h : a ∈ M.map (·.1)
  · rw [if_pos h]
    show aget (M.map fun e => if e.1 = a then (a, v, e.2.2) else e) b = _
    induction M with
    | nil => simp at h
    | cons e l ih =>
      simp only [List.map_cons, aget_cons]
      by_cases he : e.1 = a
      · simp only [if_pos he]
        by_cases hb : b = a
        · simp [hb]
        · rw [if_neg hb, if_neg hb, if_neg (by rw [he]; exact hb)]
          by_cases hm : a ∈ l.map (·.1)
          · rw [ih hm, if_neg hb]
          · congr 1
            conv => rhs; rw [← List.map_id l]
            refine List.map_congr_left fun x hx => ?_
            rw [if_neg (fun e : x.1 = a => hm (e ▸ List.mem_map_of_mem hx))]; rfl
      · simp only [if_neg he]
        have hm : a ∈ l.map (·.1) := by
          rw [List.map_cons] at h
          rcases List.mem_cons.1 h with h | h
          · exact absurd h.symm he
          · exact h
        rw [ih hm]
        by_cases hb : b = a
        · subst hb; rw [if_neg (Ne.symm he)]; simp
        · simp [hb]
  · rw [if_neg h]
    show aget (M ++ [(a, v, clk)]) b = _
    rw [aget_append, aget_cons]
    by_cases hb : b = a
    · subst hb
      rw [aget_none.2 h]; simp
    · simp [hb, aget_nil]
theorem aget_del {M : List (Ent α)} {a b : α} : aget (adel M a) b = if b = a then none else aget M b := by
  unfold adel
  induction M with
  | nil => simp [aget_nil]
  | cons e l ih =>
    rw [List.filter_cons]
    by_cases he : e.1 = a
    · simp only [he, ne_eq, not_true_eq_false, decide_false, Bool.false_eq_true, if_false]
      rw [ih, aget_cons]
      by_cases hb : b = a
      · simp [hb]
      · simp [hb, he]
    · simp only [ne_eq, he, not_false_eq_true, decide_true, if_true, aget_cons, ih]
      by_cases hb : b = a
      · subst hb; simp [Ne.symm he]
      · simp [hb]
theorem keys_put {M : List (Ent α)} {clk : Nat} {a : α} {v : Value} : (aput M clk a v).1.map (·.1) = if a ∈ M.map (·.1) then M.map (·.1) else M.map (·.1) ++ [a] := by
  unfold aput
  by_cases h : a ∈ M.map (·.1)
  · simp only [if_pos h, List.map_map]
    refine List.map_congr_left fun e _ => ?_
    simp only [Function.comp]
    by_cases he : e.1 = a <;> simp [he]
  · simp [if_neg h]
theorem nodup_put {M : List (Ent α)} {clk : Nat} {a : α} {v : Value} (h : (M.map (·.1)).Nodup) : ((aput M clk a v).1.map (·.1)).Nodup := by
  rw [keys_put]
  by_cases hm : a ∈ M.map (·.1)
  · rw [if_pos hm]; exact h
  · rw [if_neg hm]
    refine List.nodup_append.2 ⟨h, by simp, ?_⟩
    intro x hx y hy
    simp only [List.mem_singleton] at hy
    subst hy
    exact fun e => hm (e ▸ hx)
theorem nodup_del {M : List (Ent α)} {a : α} (h : (M.map (·.1)).Nodup) : ((adel M a).map (·.1)).Nodup :=
  ((List.filter_sublist (l := M)).map _).nodup h

section
variable {P : Program} {t K E : TypeId} {enc} (ht : P.underlying t = some (.map K E)) (hk : KeyLaw enc P K) {w : World} {b : Nat} {M : List (Ent α)} {clk : Nat}
include ht hk

theorem run_lookup (hb : w.heap[b]? = some (mapObj enc M clk)) (a : α) (ok : Bool) {z : Value} {ti : TypeInfo} (hE : P.info? E = some ti) (hz : ti.zero = some z) :
    (Instr.lookup t (.map (some b)) (enc a) ok).run P w = .ok (if ok then .tuple #[(aget M a).getD z, .bool (aget M a).isSome] else (aget M a).getD z) w := by
  have hget : (getObj b).run P w = .ok (mapObj enc M clk) w := by simp only [getObj, Sem.run]; rw [hb]; rfl
  have hchk := hk.check (M.map (toEnt enc)).toArray.isEmpty w a
  have hf := hk.find w a M
  cases hfi : afind a M 0 with
  | none =>
    have e : aget M a = none := by unfold aget; rw [hfi]; rfl
    rw [hfi] at hf
    unfold Instr.lookup
    simp only [Sem.run_bind, underlying, run_program, Result.andThen_ok, ht, hget, mapObj, Sem.run_pure, hchk, hf, e, zeroValue, typeInfo, hE, hz]
    cases ok <;> rfl
  | some x =>
    obtain ⟨i, v⟩ := x
    have e : aget M a = some v := by unfold aget; rw [hfi]; rfl
    rw [hfi] at hf
    unfold Instr.lookup
    simp only [Sem.run_bind, underlying, run_program, Result.andThen_ok, ht, hget, mapObj, Sem.run_pure, hchk, hf, e]
    cases ok <;> rfl

theorem run_mapUpdate (hn : (M.map (·.1)).Nodup) (hb : w.heap[b]? = some (mapObj enc M clk)) (a : α) (v : Value) :
    (Instr.mapUpdate t (.map (some b)) (enc a) v).run P w = .ok () { w with heap := w.heap.setIfInBounds b (mapObj enc (aput M clk a v).1 (aput M clk a v).2) } := by
  have hget : (getObj b).run P w = .ok (mapObj enc M clk) w := by simp only [getObj, Sem.run]; rw [hb]; rfl
  have hset : ∀ o, (setObj b o).run P w = .ok () { w with heap := w.heap.setIfInBounds b o } := fun o => by simp only [setObj, Sem.run]; rw [hb]; rfl
  have hchk := hk.check false w a
  have hf := hk.find w a M
  cases hfi : afind a M 0 with
  | none =>
    have hm := afind_none.1 hfi
    rw [hfi] at hf
    unfold Instr.mapUpdate
    simp only [Sem.run_bind, underlying, run_program, Result.andThen_ok, ht, hget, mapObj, Sem.run_pure, hchk, hf, hset]
    unfold aput
    rw [if_neg hm]
    simp [toEnt]
  | some x =>
    obtain ⟨i, u⟩ := x
    obtain ⟨_, hi, h1, h2⟩ := afind_some hfi
    simp only [Nat.sub_zero] at hi h1 h2
    have hm : a ∈ M.map (·.1) := List.mem_map.2 ⟨M[i], List.getElem_mem hi, h1⟩
    have hold : ((((M.map (toEnt enc)).toArray[i]?).map (·.key)).getD (enc a)) = enc a := by
      simp [hi, toEnt, h1]
    rw [hfi] at hf
    unfold Instr.mapUpdate
    simp only [Sem.run_bind, underlying, run_program, Result.andThen_ok, ht, hget, mapObj, Sem.run_pure, hchk, hf, hold, hk.stays, hset]
    unfold aput
    rw [if_pos hm]
    show Result.ok () _ = Result.ok () _
    congr 2
    show w.heap.setIfInBounds b (Obj.map _ clk) = w.heap.setIfInBounds b (Obj.map _ clk)
    congr 2
    apply Array.ext
    · simp
    · intro j hj1 hj2
      simp only [Array.size_modify, List.size_toArray, List.length_map] at hj1
      simp only [Array.getElem_modify, List.getElem_toArray, List.getElem_map]
      by_cases hij : i = j
      · subst hij; simp [toEnt, h1]
      · rw [if_neg hij, if_neg ?_]
        intro e
        have hn1 : (M.map (·.1))[i]'(by simpa using hi) = a := by simp [h1]
        have hn2 : (M.map (·.1))[j]'(by simpa using hj1) = a := by simp [e]
        exact hij (nodup_inj hn _ _ (hn1.trans hn2.symm))

theorem run_delete (hn : (M.map (·.1)).Nodup) (hb : w.heap[b]? = some (mapObj enc M clk)) (a : α) (u ty : Nat) :
    (Builtin.delete_ #[t, u] ty #[.map (some b), enc a]).run P w = .ok (.tuple #[]) { w with heap := w.heap.setIfInBounds b (mapObj enc (adel M a) clk) } := by
  have hget : (getObj b).run P w = .ok (mapObj enc M clk) w := by simp only [getObj, Sem.run]; rw [hb]; rfl
  have hset : ∀ o, (setObj b o).run P w = .ok () { w with heap := w.heap.setIfInBounds b o } := fun o => by simp only [setObj, Sem.run]; rw [hb]; rfl
  have hchk := hk.check (M.map (toEnt enc)).toArray.isEmpty w a
  have hf := hk.find w a M
  cases hfi : afind a M 0 with
  | none =>
    have hm := afind_none.1 hfi
    have e : adel M a = M := List.filter_eq_self.2 fun x hx => by
      simp only [ne_eq, decide_eq_true_eq]
      exact fun e => hm (e ▸ List.mem_map_of_mem hx)
    rw [hfi] at hf
    unfold Builtin.delete_
    rw [e]
    simp only [List.getElem?_toArray, List.getElem?_cons_zero, List.getElem?_cons_succ, Sem.run_bind, underlying, run_program, Result.andThen_ok, ht, hget, mapObj, Sem.run_pure, hchk, hf, hset]
  | some x =>
    obtain ⟨i, v⟩ := x
    obtain ⟨_, hi, h1, h2⟩ := afind_some hfi
    simp only [Nat.sub_zero] at hi h1 h2
    have e : M.eraseIdx i = adel M a := by
      have hs : M = M.take i ++ M[i] :: M.drop (i + 1) := by rw [List.getElem_cons_drop, List.take_append_drop]
      rw [List.eraseIdx_eq_take_drop_succ]
      unfold adel
      conv => rhs; rw [hs]
      rw [List.filter_append, List.filter_cons]
      simp only [h1, ne_eq, not_true_eq_false, decide_false, Bool.false_eq_true, if_false]
      have hn' := hn
      rw [hs] at hn'
      simp only [List.map_append, List.map_cons, List.nodup_append, List.nodup_cons] at hn'
      obtain ⟨_, ⟨n2, _⟩, n3⟩ := hn'
      congr 1
      · refine (List.filter_eq_self.2 fun x hx => ?_).symm
        simp only [decide_eq_true_eq]
        intro e
        exact n3 x.1 (List.mem_map_of_mem hx) M[i].1 (List.mem_cons_self ..) (e.trans h1.symm)
      · refine (List.filter_eq_self.2 fun x hx => ?_).symm
        simp only [decide_eq_true_eq]
        intro e
        exact n2 (by rw [h1, ← e]; exact List.mem_map_of_mem hx)
    rw [hfi] at hf
    unfold Builtin.delete_
    have e2 : (M.map (toEnt enc)).toArray.eraseIdxIfInBounds i = ((adel M a).map (toEnt enc)).toArray := by
      rw [← e]
      apply Array.ext'
      simp [map_eraseIdx]
    simp only [List.getElem?_toArray, List.getElem?_cons_zero, List.getElem?_cons_succ, Sem.run_bind, underlying, run_program, Result.andThen_ok, ht, hget, mapObj, Sem.run_pure, hchk, hf, hset, e2]
end

/-- Keys that are ints. -/
def encI (k : IntKind) (n : Int) : Value := .int k n
theorem findNow_int (k : IntKind) (a : Int) (l : List (Ent Int)) : ∀ i, Instr.findNow (.int k) (encI k a) (l.map (toEnt (encI k))) i = some (afind a l i) := by
  induction l with
  | nil => intro i; rfl
  | cons e l ih =>
    intro i
    simp only [List.map_cons, Instr.findNow, toEnt, encI, Instr.sameNow, if_true, afind]
    by_cases h : a = e.1
    · simp [h]
    · have hb : (a == e.1) = false := by simpa using h
      rw [hb, if_neg h]
      exact ih (i + 1)
theorem keyLaw_int {P : Program} {K : TypeId} {k : IntKind} (hK : P.underlying K = some (.int k)) : KeyLaw (encI k) P K where
  check e w a := by
    show (Instr.checkKey e (9999 + 1) K (encI k a)).run P w = _
    unfold Instr.checkKey
    simp [underlying, hK]
  find w a l := by
    unfold Instr.findKey
    simp only [Sem.run_bind, underlying, run_program, Result.andThen_ok, hK, Sem.run_pure, findNow_int]
  stays w a := by
    unfold Instr.keyThatStays
    have : Instr.sameBits 10000 (encI k a) (encI k a) = true := by show Instr.sameBits (9999 + 1) _ _ = true; simp [Instr.sameBits, encI]
    simp [this]
end
end Go.Vc
