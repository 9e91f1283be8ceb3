/-
  m[k] = f(m[k]): an entry that is looked at, and filled.
-/
import Derived.Test.YtmffnjdndhkbhaaVcRange
namespace Go.Vc
open Go
set_option linter.unusedVariables false
section
variable {α : Type} [DecidableEq α] {enc : α → Value}
theorem aput_again {M : List (Ent α)} {clk : Nat} {a : α} {u v : Value} : ((aput M clk a u).1.map fun e => if e.1 = a then (a, v, e.2.2) else e) = (aput M clk a v).1 ∧ (aput M clk a u).2 = (aput M clk a v).2 := by
  unfold aput
  by_cases h : a ∈ M.map (·.1)
  · simp only [if_pos h, List.map_map]
    refine ⟨List.map_congr_left fun e _ => ?_, trivial⟩
    simp only [Function.comp]
    by_cases he : e.1 = a <;> simp [he]
  · simp only [if_neg h, List.map_append]
    refine ⟨?_, trivial⟩
    congr 1
    · conv => rhs; rw [← List.map_id M]
      refine List.map_congr_left fun e he => ?_
      rw [if_neg (fun e2 : e.1 = a => h (e2 ▸ List.mem_map_of_mem he))]; rfl
    · simp
variable {P : Program} {t K E : TypeId} {w : World} {b : Nat} {M : List (Ent α)} {clk : Nat}
theorem run_mapEntry (ht : P.underlying t = some (.map K E)) (hk : KeyLaw enc P K) (hn : (M.map (·.1)).Nodup) (hb : w.heap[b]? = some (mapObj enc M clk)) (a : α) {z : Value} {ti : TypeInfo} (hE : P.info? E = some ti) (hz : ti.zero = some z) :
    ∃ s : Nat, (a, (aget M a).getD z, s) ∈ (aput M clk a ((aget M a).getD z)).1 ∧ (Instr.mapEntry t (.map (some b)) (enc a)).run P w = .ok (.tuple #[(aget M a).getD z, .int .i64 (s : Nat)]) { w with heap := w.heap.setIfInBounds b (mapObj enc (aput M clk a ((aget M a).getD z)).1 (aput M clk a ((aget M a).getD z)).2) } := by
  have hget : (getObj b).run P w = .ok (mapObj enc M clk) w := by simp only [getObj, Sem.run]; rw [hb]; rfl
  have hset : ∀ o, (setObj b o).run P w = .ok () { w with heap := w.heap.setIfInBounds b o } := fun o => by simp only [setObj, Sem.run]; rw [hb]; rfl
  have hchk := hk.check false w a
  have hf := hk.find w a M
  cases hfi : afind a M 0 with
  | none =>
    have hm := afind_none.1 hfi
    have e : aget M a = none := by unfold aget; rw [hfi]; rfl
    rw [hfi] at hf
    refine ⟨clk, by unfold aput; rw [if_neg hm]; simp, ?_⟩
    unfold Instr.mapEntry
    simp only [Sem.run_bind, underlying, run_program, Result.andThen_ok, ht, hget, mapObj, Sem.run_pure, hchk, hf, hset, zeroValue, typeInfo, hE, hz, e]
    unfold aput
    rw [if_neg hm]
    simp [toEnt, goInt]
  | some x =>
    obtain ⟨i, u⟩ := x
    obtain ⟨_, hi, h1, h2⟩ := afind_some hfi
    simp only [Nat.sub_zero] at hi h1 h2
    have hm : a ∈ M.map (·.1) := List.mem_map.2 ⟨M[i], List.getElem_mem hi, h1⟩
    have e : aget M a = some u := by unfold aget; rw [hfi]; rfl
    have hold : ((((M.map (toEnt enc)).toArray[i]?).map (·.key)).getD (enc a)) = enc a := by simp [hi, toEnt, h1]
    have hborn : ((((M.map (toEnt enc)).toArray[i]?).map fun x => ((x.born : Nat) : Int)).getD 0) = ((M[i].2.2 : Nat) : Int) := by simp [hi, toEnt]
    rw [hfi] at hf
    refine ⟨M[i].2.2, ?_, ?_⟩
    · unfold aput
      rw [if_pos hm, e]
      refine List.mem_map.2 ⟨M[i], List.getElem_mem hi, ?_⟩
      rw [if_pos h1]
    · unfold Instr.mapEntry
      simp only [Sem.run_bind, underlying, run_program, Result.andThen_ok, ht, hget, mapObj, Sem.run_pure, hchk, hf, hold, hborn, hk.stays, hset, e]
      unfold aput
      rw [if_pos hm]
      have harr : ((M.map (toEnt enc)).toArray.modify i fun e => { e with key := enc a }) = ((M.map fun e => if e.1 = a then (a, u, e.2.2) else e).map (toEnt enc)).toArray := by
        apply Array.ext
        · simp
        · intro j hj1 hj2
          simp only [Array.size_modify, List.size_toArray, List.length_map] at hj1
          simp only [Array.getElem_modify, List.getElem_toArray, List.getElem_map]
          by_cases hij : i = j
          · subst hij; simp [toEnt, h1, h2]
          · rw [if_neg hij, if_neg ?_]
            intro e
            have hn1 : (M.map (·.1))[i]'(by simpa using hi) = a := by simp [h1]
            have hn2 : (M.map (·.1))[j]'(by simpa using hj1) = a := by simp [e]
            exact hij (nodup_inj hn _ _ (hn1.trans hn2.symm))
      rw [harr]
      rfl
theorem run_entryStore (hn : (M.map (·.1)).Nodup) (hbo : Born M clk) (hb : w.heap[b]? = some (mapObj enc M clk)) {a : α} {u : Value} {s : Nat} (hm : (a, u, s) ∈ M) (v : Value) :
    (Instr.entryStore t (.map (some b)) (.int .i64 (s : Nat)) v).run P w = .ok () { w with heap := w.heap.setIfInBounds b (mapObj enc (M.map fun e => if e.1 = a then (a, v, e.2.2) else e) clk) } := by
  have hget : (getObj b).run P w = .ok (mapObj enc M clk) w := by simp only [getObj, Sem.run]; rw [hb]; rfl
  have hset : ∀ o, (setObj b o).run P w = .ok () { w with heap := w.heap.setIfInBounds b o } := fun o => by simp only [setObj, Sem.run]; rw [hb]; rfl
  obtain ⟨i, hi, hMi⟩ := List.mem_iff_getElem.1 hm
  have hfind : (M.map (toEnt enc)).toArray.findIdx? (fun e => (e.born : Int) == ((s : Nat) : Int)) = some i := by
    rw [List.findIdx?_toArray, List.findIdx?_eq_some_iff_getElem]
    refine ⟨by simpa using hi, by simp [toEnt, hMi], fun j hj => ?_⟩
    have hj2 : j < M.length := by omega
    simp only [List.getElem_map, toEnt, beq_iff_eq]
    intro e
    have h1 : (M.map (·.2.2))[j]'(by simpa using hj2) = (M.map (·.2.2))[i]'(by simpa using hi) := by
      simp only [List.getElem_map, hMi]; omega
    exact absurd ((List.getElem_inj hbo.nd).1 h1) (by omega)
  unfold Instr.entryStore
  simp only [Sem.run_bind, Result.andThen_ok, hget, mapObj, Sem.run_pure, asInt, asIntOf, hfind, hset]
  show Result.ok () _ = Result.ok () _
  congr 2
  show w.heap.setIfInBounds b (Obj.map _ clk) = w.heap.setIfInBounds b (Obj.map _ clk)
  congr 2
  apply Array.ext
  · simp
  · intro j hj1 hj2
    simp only [Array.size_modify, List.size_toArray, List.length_map] at hj1
    simp only [Array.getElem_modify, List.getElem_toArray, List.getElem_map]
    have hMi1 : M[i].1 = a := by rw [hMi]
    by_cases hij : i = j
    · subst hij; simp [toEnt, hMi1, hMi]
    · rw [if_neg hij, if_neg ?_]
      intro e
      have hn1 : (M.map (·.1))[i]'(by simpa using hi) = a := by simp [hMi1]
      have hn2 : (M.map (·.1))[j]'(by simpa using hj1) = a := by simp [e]
      exact hij (nodup_inj hn _ _ (hn1.trans hn2.symm))
end
end Go.Vc
