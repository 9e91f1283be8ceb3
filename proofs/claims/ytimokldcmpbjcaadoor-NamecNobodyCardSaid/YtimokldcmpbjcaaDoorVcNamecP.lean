/- A part of the proof: lemmas. -/
import Derived.Lib.Split
import Derived.Lib.IndexBytes
namespace Go.Proofs.YtimokldcmpbjcaaDoor
open Go Go.Lib
set_option linter.unusedVariables false

/-- A path's pieces between strokes. -/
def segs : List UInt8 → List (List UInt8)
  | [] => [[]]
  | c :: l => if c = 47 then [] :: segs l else match segs l with
    | [] => [[c]]
    | s :: r => (c :: s) :: r
theorem segs_ne (l : List UInt8) : segs l ≠ [] := by
  cases l with
  | nil => simp [segs]
  | cons c l =>
    unfold segs
    split
    · simp
    · split <;> simp
theorem idx_cons (c : UInt8) (l : List UInt8) : index (c :: l) [47] = if c = 47 then 0 else if index l [47] = -1 then -1 else index l [47] + 1 := by
  rw [index_one, index_one]
  conv => lhs; unfold indexByte
  simp only [beq_iff_eq]
theorem idx_ge (l : List UInt8) : -1 ≤ index l [47] := index_ge l [47]
theorem count_cons_ne {c : UInt8} (hc : c ≠ 47) (l : List UInt8) : count (c :: l) [47] = count l [47] := by
  have hi := idx_cons c l
  rw [if_neg hc] at hi
  by_cases h : index l [47] = -1
  · rw [if_pos h] at hi
    rw [count_miss hi, count_miss h]
  · rw [if_neg h] at hi
    have hg := idx_ge l
    obtain ⟨i, hi2⟩ : ∃ i : Nat, index l [47] = i := ⟨(index l [47]).toNat, by omega⟩
    rw [count_hit (i := i) (by simp) hi2, count_hit (i := i + 1) (by simp) (by rw [hi, hi2]; simp)]
    simp
theorem splitK_cons_ne {c : UInt8} (hc : c ≠ 47) (k : Nat) (l : List UInt8) : ∃ s r, splitK [47] 0 k l = s :: r ∧ splitK [47] 0 k (c :: l) = (c :: s) :: r := by
  cases k with
  | zero => exact ⟨l, [], rfl, rfl⟩
  | succ k =>
    have hi := idx_cons c l
    rw [if_neg hc] at hi
    unfold splitK
    by_cases h : index l [47] = -1
    · rw [if_pos h] at hi
      exact ⟨l, [], by rw [h]; rfl, by rw [hi]; rfl⟩
    · rw [if_neg h] at hi
      have hg := idx_ge l
      obtain ⟨i, hi2⟩ : ∃ i : Nat, index l [47] = i := ⟨(index l [47]).toNat, by omega⟩
      rw [hi2] at hi
      refine ⟨l.take i, splitK [47] 0 k (l.drop (i + 1)), ?_, ?_⟩
      · rw [hi2, if_neg (by simp)]; simp
      · rw [hi, if_neg (by simp; omega)]
        have e : ((i : Int) + 1).toNat = i + 1 := by omega
        rw [e]; simp
theorem split_segs : ∀ l : List UInt8, split l [47] = segs l
  | [] => by
    unfold split
    rw [count_miss (by rw [index_one]; rfl)]; rfl
  | c :: l => by
    have ih := split_segs l
    unfold split at ih ⊢
    unfold segs
    by_cases hc : c = 47
    · subst hc
      have hi := idx_cons 47 l
      rw [if_pos rfl] at hi
      have hcnt := count_hit (s := 47 :: l) (sub := [47]) (i := 0) (by simp) (by rw [hi]; rfl)
      rw [hcnt, Nat.add_comm 1]
      unfold splitK
      rw [hi, if_pos rfl, if_neg (by decide)]
      have e : (List.drop (0 + [(47 : UInt8)].length) (47 :: l)) = l := rfl
      rw [e, ← ih]
      rfl
    · rw [if_neg hc, count_cons_ne hc]
      obtain ⟨s, r, h1, h2⟩ := splitK_cons_ne hc (count l [47]) l
      rw [h2, ← ih, h1]
end Go.Proofs.YtimokldcmpbjcaaDoor
