/-
  The library's sort of numbers, over slices that are owned.
-/
import Derived.Test.YtmffnjdndhkbhaaVcVec
import Derived.Shelf.Sort.Plain
import Derived.Shelf.Slices.In.SortNone
namespace Go.Vc
open Go
set_option linter.unusedVariables false
section
variable {w0 w : World} {Im : Mem} {L : List (Nat × Obj)} {P : Program} {R : Ending → World → Prop}

theorem Own.grow (h : Own w0 Im w L) (os : Array Obj) : Own w0 Im (Go.Sort.grow w os) L := by
  have hk : ∀ {k : Nat} {o : Obj}, w.heap[k]? = some o → (w.heap ++ os)[k]? = some o := fun {k o} hk => by
    rw [Array.getElem?_append_left (lt_of_heap hk)]; exact hk
  exact ⟨h.os, h.tape, h.out, Nat.le_trans h.size (by show _ ≤ (w.heap ++ os).size; simp), fun k o hx => hk (h.im k o hx), h.nd, fun p hp => hk (h.own p hp), h.apart⟩

theorem own_putRow (h : Own w0 Im w L) (i : Nat) {g : Nat} {cs : Array Value} {T : Nat} {z : Nat × Nat} (hi : L[i]? = some (g, .cells cs T z)) (d : Array Int) :
    Own w0 Im (Go.Sort.putRow (Value.int .i64) w g 0 d) (L.set i (g, .cells (Go.Sort.putCells (Value.int .i64) 0 d cs) T z)) := by
  have hg := h.get i hi
  refine h.turn i hi rfl rfl rfl ?_ ?_ ?_
  · show (w.heap.modify g _).size = _
    simp
  · show (w.heap.modify g _)[g]? = _
    rw [Array.getElem?_modify, if_pos rfl, hg]; rfl
  · intro k hk
    show (w.heap.modify g _)[k]? = _
    rw [Array.getElem?_modify, if_neg (fun e => hk e.symm)]

/-- slices.Sort at numbers, on a slice of one's own. -/
theorem own_sort {f : FuncId}
    (c1 : ∀ (blk off cap : Nat) (zs : List Int) (w : World), Go.Sort.Holds (Value.int .i64) w blk off zs.toArray → blk < w.heap.size → zs.length < 4611686018427387904 →
      Calls P f #[.slice (some ⟨blk, off, none⟩) zs.length cap] w fun e w' => e = .returned (.tuple #[]) ∧ ∃ n os, w' = Go.Sort.grow (Go.Sort.putRow (Value.int .i64) (Go.Sort.ahead w n) blk off (zs.mergeSort fun x y => decide (x ≤ y)).toArray) os)
    (c0 : ∀ (p : Option Addr) (cap : Nat) (w : World), Calls P f #[.slice p 0 cap] w fun e w' => e = .returned (.tuple #[]) ∧ w' = w)
    {e : Nat} {x : VecB} {zs : List Int} (h : Own w0 Im w (vecL e x ++ L)) (hx : VecOk 1 x zs.length (zs.map (Value.int .i64 ·))) (hb : zs.length < 4611686018427387904)
    (hR : ∀ w' x', Own w0 Im w' (vecL e x' ++ L) → VecOk 1 x' zs.length ((zs.mergeSort fun x y => decide (x ≤ y)).map (Value.int .i64 ·)) → vecA x' = vecA x → vecC x' = vecC x → R (.returned (.tuple #[])) w') :
    Calls P f #[.slice (vecA x) zs.length (vecC x)] w R := by
  have hms : (zs.mergeSort fun x y => decide (x ≤ y)).length = zs.length := List.length_mergeSort _
  cases x with
  | none =>
    have h0 : zs.length = 0 := hx.none_iff rfl
    have hz : zs = [] := List.eq_nil_of_length_eq_zero h0
    subst hz
    refine (c0 _ _ w).mono fun e w' ⟨he, hw⟩ => ?_
    subst he hw
    refine hR w' none h ?_ rfl rfl
    simpa using hx
  | some y =>
    obtain ⟨g, c, cur⟩ := y
    have hg : w.heap[g]? = some (.cells cur.toArray e (0, 0)) := h.get 0 rfl
    have hxx := hx
    obtain ⟨x1, x2, x3, x4, x5⟩ := hx
    refine (c1 g 0 c zs w ?_ (lt_of_heap hg) hb).mono fun e' w' ⟨he, n, os, hw⟩ => ?_
    · intro j hj
      have hj' : j < zs.length := by simpa using hj
      rw [Nat.zero_add]
      refine ⟨?_, frozen_of hg j⟩
      have := vec_cell hxx hg (j := j) (u := .int .i64 zs[j]) (by simp [hj'])
      rw [this]
      simp [hj']
    · subst he hw
      have ha : Own w0 Im (Go.Sort.ahead w n) (vecL e (some (g, c, cur)) ++ L) := h.drawn
      have hp := (own_putRow ha 0 (g := g) (cs := cur.toArray) (T := e) (z := (0, 0)) rfl (zs.mergeSort fun x y => decide (x ≤ y)).toArray).grow os
      refine hR _ (some (g, c, (Go.Sort.putCells (Value.int .i64) 0 (zs.mergeSort fun x y => decide (x ≤ y)).toArray cur.toArray).toList)) ?_ ?_ rfl rfl
      · simpa [vecL] using hp
      · refine ⟨by simp, x2, x3, ?_, ?_⟩
        · unfold Go.Sort.putCells; simpa using x4
        · have hzc : zs.length ≤ cur.length := by have : zs.length ≤ c := x2; omega
          apply List.ext_getElem?
          intro j
          rw [Nat.mul_one, List.getElem?_take]
          by_cases hj : j < zs.length
          · rw [if_pos hj]
            unfold Go.Sort.putCells
            have hj2 : j < (zs.mergeSort fun x y => decide (x ≤ y)).length := by omega
            rw [Array.getElem?_toList, Array.getElem?_mapIdx]
            have hjc : j < cur.length := by omega
            simp [hjc, hj, hms]
          · rw [if_neg hj, List.getElem?_eq_none (by simpa using hj)]
end
end Go.Vc
