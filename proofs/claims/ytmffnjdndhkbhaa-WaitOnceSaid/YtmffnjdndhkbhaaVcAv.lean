/-
  Maps whose values are lists: who owns what.
-/
import Derived.Test.YtmffnjdndhkbhaaVcEntry
import Derived.Test.YtmffnjdndhkbhaaVcElem
namespace Go.Vc
open Go
set_option linter.unusedVariables false
structure AV (κ α : Type) where
  k : κ
  v : VecB
  l : List α
open Classical in
theorem by_count {β : Type} {l l' : List β} (h : ∀ a, l.count a = l'.count a) : l.Perm l' := List.perm_iff_count.2 h
open Classical in
theorem count_of {β : Type} {l l' : List β} (h : l.Perm l') (a : β) : l.count a = l'.count a := h.count_eq a
section
variable {κ α : Type} [DecidableEq κ]
def avGet (A : List (AV κ α)) (k : κ) : Option (AV κ α) := A.find? fun e => decide (e.k = k)
def avDel (A : List (AV κ α)) (k : κ) : List (AV κ α) := A.filter fun e => !decide (e.k = k)
def avL (A : List (AV κ α)) (k : κ) : List α := ((avGet A k).map (·.l)).getD []
def avV (A : List (AV κ α)) (k : κ) : VecB := ((avGet A k).map (·.v)).getD none
def AV.val (e : AV κ α) : Value := .slice (vecA e.v) e.l.length (vecC e.v)
def avBlocks (T : Nat) (A : List (AV κ α)) : List (Nat × Obj) := A.flatMap fun e => vecL T e.v
variable {A : List (AV κ α)} {k k' : κ} {e : AV κ α}
theorem avGet_some (h : avGet A k = some e) : e ∈ A ∧ e.k = k := ⟨List.mem_of_find?_eq_some h, by simpa using List.find?_some h⟩
theorem avGet_none : avGet A k = none ↔ k ∉ A.map (·.k) := by
  unfold avGet
  rw [List.find?_eq_none]
  simp only [decide_eq_true_eq, List.mem_map, not_exists, not_and]
theorem avGet_cons : avGet (e :: A) k = if e.k = k then some e else avGet A k := by
  unfold avGet
  rw [List.find?_cons]
  by_cases h : e.k = k <;> simp [h]
theorem avDel_none (h : avGet A k = none) : avDel A k = A := List.filter_eq_self.2 fun x hx => by
  have := avGet_none.1 h
  have hne : x.k ≠ k := fun e => this (e ▸ List.mem_map_of_mem hx)
  simp [hne]
theorem avDel_keys : (avDel A k).map (·.k) = (A.map (·.k)).filter fun x => !decide (x = k) := by
  unfold avDel
  rw [List.filter_map]; rfl
theorem avGet_del : avGet (avDel A k) k' = if k' = k then none else avGet A k' := by
  unfold avGet avDel
  rw [List.find?_filter]
  by_cases h : k' = k
  · rw [if_pos h, List.find?_eq_none]
    intro x _
    by_cases hx : x.k = k' <;> simp [hx, h]
  · rw [if_neg h]
    congr 1
    funext x
    by_cases hx : x.k = k' <;> simp [hx, h]
theorem avDel_perm (hn : (A.map (·.k)).Nodup) (h : avGet A k = some e) : A.Perm (e :: avDel A k) := by
  induction A with
  | nil => cases h
  | cons x t ih =>
    rw [avGet_cons] at h
    rw [List.map_cons, List.nodup_cons] at hn
    unfold avDel
    rw [List.filter_cons]
    by_cases hx : x.k = k
    · rw [if_pos hx] at h
      cases h
      have hd : avDel t k = t := avDel_none (avGet_none.2 (by rw [← hx]; exact hn.1))
      simp only [hx, decide_true, Bool.not_true, Bool.false_eq_true, if_false]
      unfold avDel at hd
      rw [hd]
    · rw [if_neg hx] at h
      simp only [hx, decide_false, Bool.not_false, if_true]
      exact (List.Perm.cons x (ih hn.2 h)).trans (List.Perm.swap _ _ _)
theorem avL_put {v : VecB} {l : List α} : avL (⟨k, v, l⟩ :: avDel A k) k' = if k' = k then l else avL A k' := by
  unfold avL
  rw [avGet_cons, avGet_del]
  by_cases h : k' = k
  · rw [if_pos h.symm, if_pos h]; rfl
  · rw [if_neg (fun e => h e.symm), if_neg h, if_neg h]
theorem avL_del : avL (avDel A k) k' = if k' = k then [] else avL A k' := by
  unfold avL
  rw [avGet_del]
  by_cases h : k' = k
  · rw [if_pos h, if_pos h]; rfl
  · rw [if_neg h, if_neg h]
theorem avBlocks_open (T : Nat) (hn : (A.map (·.k)).Nodup) (k : κ) : (avBlocks T A).Perm (vecL T (avV A k) ++ avBlocks T (avDel A k)) := by
  unfold avV
  cases h : avGet A k with
  | none => rw [avDel_none h]; exact List.Perm.refl _
  | some e =>
    have := (avDel_perm hn h).flatMap_right fun e => vecL T e.v
    rw [List.flatMap_cons] at this
    exact this
structure AvOk (f : α → List Value) (n : Nat) (A : List (AV κ α)) (M : List (Ent κ)) (clk : Nat) : Prop where
  nd : (A.map (·.k)).Nodup
  vec : ∀ e ∈ A, VecE f n e.v e.l
  map : ∀ k, aget M k = (avGet A k).map AV.val
  mnd : (M.map (·.1)).Nodup
  born : Born M clk
variable {f : α → List Value} {n : Nat} {M : List (Ent κ)} {clk : Nat}
theorem AvOk.empty : AvOk f n ([] : List (AV κ α)) [] 0 := ⟨List.nodup_nil, fun _ h => (by cases h), fun _ => rfl, List.nodup_nil, Born.nil⟩
theorem AvOk.keys (h : AvOk f n A M clk) : (M.map (·.1)).Perm (A.map (·.k)) := (List.perm_ext_iff_of_nodup h.mnd h.nd).2 fun k => by
  have := h.map k
  constructor
  · intro hm
    refine Classical.not_not.1 fun hk => ?_
    rw [avGet_none.2 hk] at this
    exact aget_none.1 this hm
  · intro hm
    refine Classical.not_not.1 fun hk => ?_
    rw [aget_none.2 hk] at this
    cases hg : avGet A k with
    | none => exact avGet_none.1 hg hm
    | some e => rw [hg] at this; cases this
theorem AvOk.len (h : AvOk f n A M clk) : M.length = A.length := by
  have := h.keys.length_eq
  simpa using this
theorem AvOk.vecAt (h : AvOk f n A M clk) (k : κ) : VecE f n (avV A k) (avL A k) := by
  unfold avV avL
  cases hg : avGet A k with
  | none => exact VecE.nil
  | some e => exact h.vec e (avGet_some hg).1
theorem AvOk.look (h : AvOk f n A M clk) (k : κ) : (aget M k).getD (.slice none 0 0) = .slice (vecA (avV A k)) (avL A k).length (vecC (avV A k)) := by
  rw [h.map k]
  unfold avV avL
  cases hg : avGet A k with
  | none => rfl
  | some e => rfl
theorem AvOk.isSome (h : AvOk f n A M clk) (k : κ) : (aget M k).isSome = decide (k ∈ A.map (·.k)) := by
  rw [h.map k]
  by_cases hm : k ∈ A.map (·.k)
  · rw [decide_eq_true hm]
    cases hg : avGet A k with
    | none => exact absurd hm (avGet_none.1 hg)
    | some e => rfl
  · rw [decide_eq_false hm, avGet_none.2 hm]; rfl
theorem AvOk.put (h : AvOk f n A M clk) (k : κ) {v : VecB} {l : List α} (hv : VecE f n v l) : AvOk f n (⟨k, v, l⟩ :: avDel A k) (aput M clk k (.slice (vecA v) l.length (vecC v))).1 (aput M clk k (.slice (vecA v) l.length (vecC v))).2 := by
  refine ⟨?_, fun e he => ?_, fun k' => ?_, nodup_put h.mnd, h.born.put k _⟩
  · rw [List.map_cons, List.nodup_cons]
    refine ⟨?_, (List.Sublist.map _ List.filter_sublist).nodup h.nd⟩
    rw [avDel_keys, List.mem_filter]
    simp
  · rcases List.mem_cons.1 he with rfl | he
    · exact hv
    · exact h.vec e (List.mem_filter.1 he).1
  · rw [aget_put, avGet_cons, avGet_del, h.map k']
    by_cases hk : k' = k
    · rw [if_pos hk, if_pos hk.symm]; rfl
    · rw [if_neg hk, if_neg (fun e => hk e.symm), if_neg hk]
theorem AvOk.del (h : AvOk f n A M clk) (k : κ) : AvOk f n (avDel A k) (adel M k) clk := by
  refine ⟨(List.Sublist.map _ List.filter_sublist).nodup h.nd, fun e he => h.vec e (List.mem_filter.1 he).1, fun k' => ?_, nodup_del h.mnd, h.born.del k⟩
  rw [aget_del, avGet_del, h.map k']
  by_cases hk : k' = k
  · rw [if_pos hk, if_pos hk]; rfl
  · rw [if_neg hk, if_neg hk]
end
end Go.Vc
