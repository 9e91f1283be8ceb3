/-
  'range' over a map that is owned.
-/
import Derived.Test.YtmffnjdndhkbhaaVcHeap
import Derived.Maps.RangeRun
namespace Go.Vc
open Go
set_option linter.unusedVariables false
section
variable {α : Type} {enc : α → Value} {P : Program} {w0 w : World} {Im : Mem} {L : List (Nat × Obj)}
/-- When its entries were born. -/
structure Born (M : List (Ent α)) (clk : Nat) : Prop where
  nd : (M.map (·.2.2)).Nodup
  lt : ∀ e ∈ M, e.2.2 < clk
theorem Born.nil {c : Nat} : Born ([] : List (Ent α)) c := ⟨List.nodup_nil, fun _ h => by cases h⟩
theorem Born.put [DecidableEq α] {M : List (Ent α)} {clk : Nat} (h : Born M clk) (a : α) (v : Value) : Born (aput M clk a v).1 (aput M clk a v).2 := by
  unfold aput
  by_cases hm : a ∈ M.map (·.1)
  · rw [if_pos hm]
    have e : (M.map fun e => if e.1 = a then (a, v, e.2.2) else e).map (·.2.2) = M.map (·.2.2) := by
      rw [List.map_map]
      refine List.map_congr_left fun e _ => ?_
      simp only [Function.comp]
      split <;> rfl
    refine ⟨by show ((M.map _).map _).Nodup; rw [e]; exact h.nd, fun x hx => ?_⟩
    obtain ⟨e, he, rfl⟩ := List.mem_map.1 hx
    have := h.lt e he
    show _ < clk
    split <;> exact this
  · rw [if_neg hm]
    refine ⟨?_, fun x hx => ?_⟩
    · show ((M ++ [(a, v, clk)]).map _).Nodup
      rw [List.map_append]
      refine List.nodup_append.2 ⟨h.nd, by simp, ?_⟩
      intro x hx y hy e
      simp at hy
      obtain ⟨z, hz, ez⟩ := List.mem_map.1 hx
      have := h.lt z hz
      omega
    · show _ < clk + 1
      rcases List.mem_append.1 hx with hx | hx
      · have := h.lt x hx; omega
      · simp at hx; rw [hx]; exact Nat.lt_succ_self _
theorem Born.sub {M M' : List (Ent α)} {clk : Nat} (h : Born M clk) (hs : M'.Sublist M) : Born M' clk := ⟨(hs.map _).nodup h.nd, fun e he => h.lt e (hs.subset he)⟩
theorem Born.del [DecidableEq α] {M : List (Ent α)} {clk : Nat} (h : Born M clk) (a : α) : Born (adel M a) clk := h.sub List.filter_sublist

variable {M : List (Ent α)} {clk b t K E : Nat}
theorem own_range (ht : P.underlying t = some (.map K E)) (h : Own w0 Im w L) (hb : (b, mapObj enc M clk) ∈ L) :
    ∃ w', (Instr.range t (.map (some b))).run P w = .ok (.pointer (some ⟨w.heap.size, 0, none⟩)) w' ∧ Own w0 Im w' ((w.heap.size, .mapIter (some b) clk #[] clk) :: L) := by
  refine ⟨_, run_range_map w t K E b _ clk ht (h.mem hb), ?_⟩
  exact h.alloc _

theorem own_next {r since c0 ty : Nat} {seen : Array Nat} (h : Own w0 Im w ((r, .mapIter (some b) since seen c0) :: L)) (hb : (b, mapObj enc M clk) ∈ L) (hold : ∀ e ∈ M, e.2.2 < since) (hsc : since ≤ c0) :
    ((∀ e ∈ M, e.2.2 ∈ seen.toList) ∧ (Instr.next (.pointer (some ⟨r, 0, none⟩)) false ty).run P w = .ok (.tuple #[.bool false]) w) ∨
    ∃ e ∈ M, e.2.2 ∉ seen.toList ∧ ∃ w', (Instr.next (.pointer (some ⟨r, 0, none⟩)) false ty).run P w = .ok (.tuple #[.bool true, enc e.1, e.2.1]) w' ∧ Own w0 Im w' ((r, .mapIter (some b) since (seen.push e.2.2) clk) :: L) := by
  have hr : w.heap[r]? = some (.mapIter (some b) since seen c0) := h.get 0 rfl
  have hbm : w.heap[b]? = some (.map (M.map (toEnt enc)).toArray clk) := h.mem (List.mem_cons_of_mem _ hb)
  rcases run_next_at (P := P) w ty r b since c0 seen _ clk hr hbm (fun x hx => by
      simp only [List.mem_map] at hx
      obtain ⟨e, he, rfl⟩ := hx
      exact hold e he) hsc with ⟨h0, hrun⟩ | ⟨x, hx, w1, hw1, hrun⟩
  · refine .inl ⟨fun e he => ?_, hrun⟩
    unfold leftOf at h0
    have h1 := Array.eq_empty_of_size_eq_zero h0
    rw [Array.filter_eq_empty_iff] at h1
    have := h1 (toEnt enc e) (by simp; exact ⟨_, _, _, he, rfl⟩)
    simpa [toEnt] using this
  · unfold leftOf at hx
    simp only [Array.toList_filter, List.mem_filter, List.mem_map] at hx
    obtain ⟨⟨e, he, rfl⟩, hns⟩ := hx
    refine .inr ⟨e, he, by simpa [toEnt] using hns, _, hrun, ?_⟩
    have h1 : Own w0 Im w1 ((r, .mapIter (some b) since seen c0) :: L) := by
      rcases hw1 with rfl | rfl
      · exact h
      · exact h.drew
    exact h1.setObj 0 rfl

theorem own_entry {r since : Nat} {seen : Array Nat} {e : Ent α} (h : Own w0 Im w ((r, .mapIter (some b) since (seen.push e.2.2) clk) :: L)) (hb : (b, mapObj enc M clk) ∈ L) (he : e ∈ M) (hn : (M.map (·.2.2)).Nodup) :
    (Instr.entry (.pointer (some ⟨r, 0, none⟩))).run P w = .ok (.tuple #[enc e.1, e.2.1]) w := by
  have hr : w.heap[r]? = some (.mapIter (some b) since (seen.push e.2.2) clk) := h.get 0 rfl
  have hbm : w.heap[b]? = some (.map (M.map (toEnt enc)).toArray clk) := h.mem (List.mem_cons_of_mem _ hb)
  refine run_entry_at (P := P) w r b since seen _ clk (toEnt enc e) hr hbm (by simp; exact ⟨_, _, _, he, rfl⟩) ?_
  simpa [List.map_map, Function.comp_def, toEnt] using hn
/-- What 'next' told: was there one? -/
theorem ex_next (k v : Value) (w : World) : (Instr.extract (.tuple #[.bool true, k, v]) 0).run P w = .ok (.bool true) w := by simp [Instr.extract]
theorem ex_over (w : World) : (Instr.extract (.tuple #[.bool false]) 0).run P w = .ok (.bool false) w := by simp [Instr.extract]
/-- len(m). -/
theorem run_len_map (ht : P.underlying t = some (.map K E)) (h : Own w0 Im w L) (hb : (b, mapObj enc M clk) ∈ L) {ty : Nat} : (Builtin.len_ #[t] ty #[.map (some b)]).run P w = .ok (.int .i64 (M.length : Nat)) w := by
  have hbm : w.heap[b]? = some (mapObj enc M clk) := h.mem hb
  have hget : (getObj b).run P w = .ok (mapObj enc M clk) w := by simp only [getObj, Sem.run]; rw [hbm]; rfl
  unfold Builtin.len_
  simp [underlying, ht, hget, mapObj, goInt]
end
end Go.Vc
