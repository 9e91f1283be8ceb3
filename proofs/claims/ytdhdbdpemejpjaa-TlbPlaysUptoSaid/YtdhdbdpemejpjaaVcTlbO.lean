/- A part of the proof: lemmas. -/
import Derived.Test.YtdhdbdpemejpjaaVcTlbN
import Derived.Test.YtdhdbdpemejpjaaVcTlbI
namespace Go.Proofs.Ytdhdbdpemejpjaa
open Go Go.Vc
set_option maxRecDepth 100000
set_option linter.unusedVariables false

/-! ### what the reference keeps, as the other keeps it: plain lists -/
abbrev Shs := List (Int × List Int)
def shG (A : Shs) (i : Nat) : Int × List Int := A.getD i (0, [])
def shOf (A : Shs) : Int → Option Shoot := fun id => if 1 ≤ id ∧ id ≤ (A.length : Nat) ∧ (shG A (id - 1).toNat).2 ≠ [] then some ⟨(shG A (id - 1).toNat).1, fun j => decide ((j : Int) ∈ (shG A (id - 1).toNat).2)⟩ else none
theorem shG_at {A : Shs} {i : Nat} (hi : i < A.length) : shG A i = A[i] := by
  unfold shG
  rw [List.getD_eq_getElem?_getD, List.getElem?_eq_getElem hi]; rfl
theorem shG_no {A : Shs} {i : Nat} (hi : A.length ≤ i) : shG A i = (0, []) := by
  unfold shG
  rw [List.getD_eq_getElem?_getD, List.getElem?_eq_none hi]; rfl
theorem start_sh (A : Shs) (sp : Int) (ts : List Int) : startSh (shOf A) ((A.length : Nat) + 1) sp ts = shOf (A ++ [(sp, ts)]) := by
  funext id
  unfold startSh shOf
  by_cases h1 : id = ((A.length : Nat) : Int) + 1
  · have e : (id - 1).toNat = A.length := by omega
    have e2 : shG (A ++ [(sp, ts)]) A.length = (sp, ts) := by rw [shG_at (by simp)]; simp
    rw [e, e2]
    by_cases h2 : ts = []
    · rw [if_neg (by simp [h2]), if_neg (by omega), if_neg (by simp [h2])]
    · rw [if_pos ⟨h1, h2⟩, if_pos ⟨by omega, by simp; omega, h2⟩]
  · rw [if_neg (fun h => h1 h.1)]
    by_cases h3 : 1 ≤ id ∧ id ≤ (A.length : Nat)
    · have hi : (id - 1).toNat < A.length := by omega
      have e2 : shG (A ++ [(sp, ts)]) (id - 1).toNat = shG A (id - 1).toNat := by
        rw [shG_at hi, shG_at (by simp; omega), List.getElem_append_left hi]
      rw [e2]
      have e3 : (1 ≤ id ∧ id ≤ (((A ++ [(sp, ts)]).length : Nat) : Int) ∧ (shG A (id - 1).toNat).2 ≠ []) ↔ (1 ≤ id ∧ id ≤ ((A.length : Nat) : Int) ∧ (shG A (id - 1).toNat).2 ≠ []) := by
        rw [List.length_append, List.length_singleton]
        constructor
        · exact fun ⟨a, _, c⟩ => ⟨a, h3.2, c⟩
        · exact fun ⟨a, b, c⟩ => ⟨a, by omega, c⟩
      by_cases h4 : (1 ≤ id ∧ id ≤ ((A.length : Nat) : Int) ∧ (shG A (id - 1).toNat).2 ≠ [])
      · rw [if_pos h4, if_pos (e3.2 h4)]
      · rw [if_neg h4, if_neg (fun h => h4 (e3.1 h))]
    · rw [if_neg (fun h => h3 ⟨h.1, h.2.1⟩), if_neg (fun h => ?_)]
      rw [List.length_append, List.length_singleton] at h
      omega
theorem waitR_eq {A : Shs} {h : Int} {i : Nat} : waitR A h i = decide (h ∈ (shG A i).2) := rfl
theorem pend_mem {A : Shs} {h : Int} {j : Nat} {id : Int} : id ∈ pendAt A h j ↔ 1 ≤ id ∧ id ≤ (j : Nat) ∧ h ∈ (shG A (id - 1).toNat).2 := by
  unfold pendAt
  rw [List.mem_map]
  constructor
  · rintro ⟨i, hi, rfl⟩
    rw [List.mem_filter, List.mem_range, waitR_eq] at hi
    have e : ((i : Int) + 1 - 1).toNat = i := by omega
    rw [e]
    exact ⟨by omega, by omega, of_decide_eq_true hi.2⟩
  · rintro ⟨h1, h2, h3⟩
    refine ⟨(id - 1).toNat, ?_, by omega⟩
    rw [List.mem_filter, List.mem_range, waitR_eq]
    exact ⟨by omega, decide_eq_true h3⟩
theorem pend_up (A : Shs) (h : Int) (j : Nat) : (pendAt A h j).Pairwise (· < ·) := by
  unfold pendAt
  rw [List.pairwise_map]
  refine List.Pairwise.imp (fun h => by omega) ((List.pairwise_lt_range (n := j)).sublist List.filter_sublist)
theorem pend_of (A : Shs) (h : Nat) : PendOf (shOf A) h (pendAt A h A.length) := by
  refine ⟨pend_up A h A.length, fun id => ?_⟩
  rw [pend_mem]
  unfold shOf
  constructor
  · rintro ⟨h1, h2, h3⟩
    refine ⟨_, if_pos ⟨h1, h2, fun e => by rw [e] at h3; cases h3⟩, decide_eq_true h3⟩
  · rintro ⟨s, hs, hl⟩
    by_cases hc : 1 ≤ id ∧ id ≤ (A.length : Nat) ∧ (shG A (id - 1).toNat).2 ≠ []
    · rw [if_pos hc] at hs
      cases hs
      exact ⟨hc.1, hc.2.1, of_decide_eq_true hl⟩
    · rw [if_neg hc] at hs; cases hs
theorem pend_uniq {sh : Int → Option Shoot} {h : Nat} {ps qs : List Int} (hp : PendOf sh h ps) (hq : PendOf sh h qs) : ps = qs := by
  have n1 : ps.Nodup := List.nodup_iff_pairwise_ne.2 (hp.up.imp fun h => by omega)
  have n2 : qs.Nodup := List.nodup_iff_pairwise_ne.2 (hq.up.imp fun h => by omega)
  have hperm : ps.Perm qs := (List.perm_ext_iff_of_nodup n1 n2).2 fun a => (hp.iff a).trans (hq.iff a).symm
  exact hperm.eq_of_pairwise (fun a b _ _ h1 h2 => by omega) hp.up hq.up
theorem pend_none {A : Shs} {h : Int} (hn : ∀ s ∈ A, h ∉ s.2) (j : Nat) : pendAt A h j = [] := by
  refine List.eq_nil_iff_forall_not_mem.2 fun id hid => ?_
  obtain ⟨h1, h2, h3⟩ := pend_mem.1 hid
  by_cases hi : (id - 1).toNat < A.length
  · rw [shG_at hi] at h3; exact hn _ (List.getElem_mem hi) h3
  · rw [shG_no (by omega)] at h3; cases h3
theorem flush_none {A : Shs} {h : Int} {Es : List (List (Key × Int))} (hn : ∀ s ∈ A, h ∉ s.2) (j : Nat) (hj : j ≤ A.length) : flushAt Es A h j = Es := by
  induction j with
  | zero => rfl
  | succ j ih => rw [flushAt_succ (by omega), if_neg (hn _ (List.getElem_mem (by omega))), ih (by omega)]
theorem hand_none {A : Shs} {h : Int} (hn : ∀ s ∈ A, h ∉ s.2) (j : Nat) (hj : j ≤ A.length) : handAt A h j = A := by
  induction j with
  | zero => simp [handAt]
  | succ j ih =>
    rw [handAt_succ (by omega), lessR_no (hn _ (List.getElem_mem (by omega))), ih (by omega)]
    exact set_self (by rw [List.getElem?_eq_getElem (by omega)])
theorem hand_G {A : Shs} {h : Int} (i : Nat) : shG (handAt A h A.length) i = lessR (shG A i) h := by
  by_cases hi : i < A.length
  · rw [shG_at hi, shG_at (by rw [handAt_len]; exact hi)]
    unfold handAt
    simp
  · rw [shG_no (A := A) (by omega), shG_no (by rw [handAt_len]; omega)]; rfl
theorem hand_sh {A : Shs} {n : Nat} (hn : n ≤ 8) (hr : ∀ s ∈ A, ∀ y ∈ s.2, 0 ≤ y ∧ y < (n : Nat)) (h : Nat) : handleSh (shOf A) h (pendAt A h A.length) = shOf (handAt A h A.length) := by
  funext id
  have hr2 : ∀ i, ∀ y ∈ (shG A i).2, 0 ≤ y ∧ y < (n : Nat) := fun i y hy => by
    by_cases hi : i < A.length
    · rw [shG_at hi] at hy; exact hr _ (List.getElem_mem hi) y hy
    · rw [shG_no (by omega)] at hy; cases hy
  unfold handleSh shOf
  rw [handAt_len, hand_G]
  generalize hs : shG A (id - 1).toNat = s
  have hrs := hr2 (id - 1).toNat
  rw [hs] at hrs
  by_cases hid : id ∈ pendAt A h A.length
  · have hid2 := pend_mem.1 hid
    rw [hs] at hid2
    have hne : s.2 ≠ [] := fun e => by rw [e] at hid2; exact absurd hid2.2.2 (by simp)
    rw [if_pos hid, if_pos ⟨hid2.1, hid2.2.1, hne⟩]
    unfold stepSh
    show (if allOff (clearSh ⟨s.1, fun j => decide ((j : Int) ∈ s.2)⟩ h) = true then none else some (clearSh ⟨s.1, fun j => decide ((j : Int) ∈ s.2)⟩ h)) = _
    have e : clearSh ⟨s.1, fun j => decide ((j : Int) ∈ s.2)⟩ h = ⟨s.1, fun j => decide ((j : Int) ∈ (lessR s h).2)⟩ := by
      unfold clearSh lessR
      congr 1
      funext j
      by_cases hj : j = h
      · subst hj; simp
      · rw [if_neg hj]
        have : ¬ ((j : Int) = (h : Int)) := by omega
        simp [List.mem_filter, this]
    rw [e]
    have hall := lf_all hn (lf := (lessR s h).2) (fun y hy => hrs y (List.mem_filter.1 hy).1) s.1
    by_cases hz : (lessR s h).2 = []
    · rw [if_pos (hall.2 hz), if_neg (fun hc => hc.2.2 hz)]
    · rw [if_neg (fun hc => hz (hall.1 hc)), if_pos ⟨hid2.1, hid2.2.1, hz⟩]; rfl
  · rw [if_neg hid]
    by_cases hin : 1 ≤ id ∧ id ≤ (A.length : Nat)
    · have hnm : (h : Int) ∉ s.2 := fun hm => hid (pend_mem.2 ⟨hin.1, hin.2, by rw [hs]; exact hm⟩)
      rw [lessR_no hnm]
    · rw [if_neg (fun hc => hin ⟨hc.1, hc.2.1⟩), if_neg (fun hc => hin ⟨hc.1, hc.2.1⟩)]
theorem flush_Es {A : Shs} {Es : List (List (Key × Int))} {h : Nat} (hh : h < Es.length) (j : Nat) (hj : j ≤ A.length) : flushAt Es A h j = Es.set h (handleE (hartE Es h) (shOf A) (pendAt A h j)) := by
  induction j with
  | zero =>
    show Es = Es.set h (hartE Es h)
    refine (set_self ?_).symm
    obtain ⟨hl, he⟩ := hartE_at (Es := Es) (h := (h : Int)) (by omega) (by omega)
    rw [he, List.getElem?_eq_getElem hh]
    simp
  | succ j ih =>
    have hj' : j < A.length := by omega
    rw [flushAt_succ hj', ih (by omega)]
    by_cases hw : (h : Int) ∈ A[j].2
    · have hw2 : waitR A h j = true := by rw [waitR_eq, shG_at hj']; exact decide_eq_true hw
      rw [if_pos hw, pendAt_yes hw2]
      have e1 : spaceOf (shOf A) ((j : Int) + 1) = A[j].1 := by
        unfold spaceOf shOf
        have e : ((j : Int) + 1 - 1).toNat = j := by omega
        rw [e, shG_at hj', if_pos ⟨by omega, by omega, fun e => by rw [e] at hw; cases hw⟩]; rfl
      unfold handleE
      rw [List.foldl_append]
      simp only [List.foldl_cons, List.foldl_nil, e1]
      unfold flushEs
      rw [if_pos ⟨by omega, by rw [List.length_set]; omega⟩, hartE_set hh, if_pos rfl, Int.toNat_natCast, List.set_set]
    · have hw2 : waitR A h j = false := by rw [waitR_eq, shG_at hj']; exact decide_eq_false hw
      rw [if_neg hw, pendAt_no hw2]
theorem over_eq (A : Shs) (id : Int) : (decide (1 ≤ id ∧ id ≤ (A.length : Nat)) && (shOf A id).isNone) = overR A id := by
  unfold overR
  by_cases h : 1 ≤ id ∧ id ≤ (A.length : Nat)
  · rw [decide_eq_true h]
    simp only [Bool.true_and]
    show (shOf A id).isNone = decide ((shG A (id - 1).toNat).2 = [])
    unfold shOf
    by_cases hz : (shG A (id - 1).toNat).2 = []
    · rw [if_neg (fun hc => hc.2.2 hz), decide_eq_true hz]; rfl
    · rw [if_pos ⟨h.1, h.2, hz⟩, decide_eq_false hz]; rfl
  · rw [decide_eq_false h]; rfl
/-- The shootdowns that are open. -/
def openIds (A : Shs) (j : Nat) : List Int := ((List.range j).filter fun i => !decide ((shG A i).2 = [])).map fun (i : Nat) => (i : Int) + 1
theorem openIds_len (A : Shs) (j : Nat) (hj : j ≤ A.length) : (openIds A j).length = openAt A j := by
  unfold openIds
  rw [List.length_map]
  induction j with
  | zero => rfl
  | succ j ih =>
    have hj' : j < A.length := by omega
    unfold openAt at ih ⊢
    rw [List.range_succ, List.filter_append, List.length_append, ih (by omega), List.take_succ_eq_append_getElem hj', List.filter_append, List.length_append, ← shG_at hj']
    congr 1
    by_cases hz : (shG A j).2 = [] <;> simp [hz]
theorem openIds_mem {A : Shs} {id : Int} : id ∈ openIds A A.length ↔ shOf A id ≠ none := by
  unfold openIds shOf
  rw [List.mem_map]
  constructor
  · rintro ⟨i, hi, rfl⟩
    rw [List.mem_filter, List.mem_range] at hi
    have e : ((i : Int) + 1 - 1).toNat = i := by omega
    rw [e, if_pos ⟨by omega, by omega, by simpa using hi.2⟩]
    intro h; cases h
  · intro h
    by_cases hc : 1 ≤ id ∧ id ≤ (A.length : Nat) ∧ (shG A (id - 1).toNat).2 ≠ []
    · refine ⟨(id - 1).toNat, ?_, by omega⟩
      rw [List.mem_filter, List.mem_range]
      exact ⟨by omega, by simpa using hc.2.2⟩
    · rw [if_neg hc] at h; exact absurd rfl h
theorem openIds_nodup (A : Shs) (j : Nat) : (openIds A j).Nodup := by
  unfold openIds
  rw [List.nodup_iff_pairwise_ne, List.pairwise_map]
  refine List.Pairwise.imp (fun h => by omega) ((List.pairwise_lt_range (n := j)).sublist List.filter_sublist)
theorem open_eq {t : TlbG} (ht : TlbOk t) {A : Shs} (hs : t.sh = shOf A) : t.OM.length = openAt A A.length := by
  rw [← openIds_len A A.length (Nat.le_refl _), ← List.length_map (f := (·.1))]
  refine ((List.perm_ext_iff_of_nodup ht.omnd (openIds_nodup A _)).2 fun id => ?_).length_eq
  rw [openIds_mem, ← hs]
  have h1 := ht.omap id
  constructor
  · intro hm e
    rw [e] at h1
    exact aget_none.1 h1 hm
  · intro hne
    refine Classical.not_not.1 fun hn => hne ?_
    rw [aget_none.2 hn] at h1
    cases hq : t.sh id with
    | none => rfl
    | some s => rw [hq] at h1; cases h1
end Go.Proofs.Ytdhdbdpemejpjaa
