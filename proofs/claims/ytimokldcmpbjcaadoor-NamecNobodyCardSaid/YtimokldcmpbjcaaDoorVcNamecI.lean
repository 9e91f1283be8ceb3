/- A part of the proof: lemmas. -/
import Derived.Test.YtimokldcmpbjcaaDoorVcNamecH
namespace Go.Proofs.YtimokldcmpbjcaaDoor
open Go Go.Vc
set_option maxRecDepth 100000
set_option linter.unusedVariables false

/-- Whom a directory that goes takes along. -/
def dirE (E : List Kp) (dir : Int) : List Kp × List Int := (E.filter fun x => !decide (x.key.1 = dir), (E.filter fun x => decide (x.key.1 = dir)).map (·.id))
theorem lessK_mid {A B : List Kp} {x : Kp} (h : ((A ++ x :: B).map (·.key)).Nodup) : lessK (A ++ x :: B) x.key = A ++ B := by
  unfold lessK
  simp only [List.map_append, List.map_cons, List.nodup_append, List.nodup_cons] at h
  obtain ⟨_, ⟨n2, _⟩, n3⟩ := h
  rw [List.filter_append, List.filter_cons]
  simp only [decide_true, Bool.not_true, Bool.false_eq_true, if_false]
  congr 1
  · exact List.filter_eq_self.2 fun y hy => by
      have : y.key ≠ x.key := fun e => n3 y.key (List.mem_map_of_mem hy) x.key (List.mem_cons_self ..) e
      simp [this]
  · exact List.filter_eq_self.2 fun y hy => by
      have : y.key ≠ x.key := fun e => n2 (e ▸ List.mem_map_of_mem hy)
      simp [this]
theorem take_yes {E : List Kp} {p : Kp → Bool} {j : Nat} (hj : j < E.length) (h : p E[j] = true) : (E.take (j + 1)).filter p = (E.take j).filter p ++ [E[j]] := by
  rw [List.take_succ_eq_append_getElem hj, List.filter_append]; simp [h]
theorem take_no {E : List Kp} {p : Kp → Bool} {j : Nat} (hj : j < E.length) (h : p E[j] = false) : (E.take (j + 1)).filter p = (E.take j).filter p := by
  rw [List.take_succ_eq_append_getElem hj, List.filter_append]; simp [h]

section
variable {w0 w : World} {Im : Mem} {Fr L : List (Nat × Obj)} {c : CacheG} {R : Ending → World → Prop}

/-- (*Cache).Kept -/
theorem s22 (h : Own w0 Im w (c.H ++ Fr)) (hc : CacheOk c) (hR : ∀ w' x', Own w0 Im w' (vecL 42 x' ++ (c.H ++ Fr)) → VecE nameC 2 x' (c.E.map (·.key)) → R (.returned (.slice (vecA x') c.E.length (vecC x'))) w') :
    Calls Tryd.prog 22 #[.pointer (some ⟨c.cb, 0, none⟩)] w R := by
  apply vc22
  unfold Vc22
  have hlen : (c.E.map (·.key)).length = c.E.length := by simp
  have := hc.full
  have := hc.rhi
  refine s34 h ⟨_, rfl, fun _ => ⟨_, _, rfl, _, _, _, h.cell 0 rfl _, ?_⟩, fun e => (by cases e)⟩
  rw [← hlen]
  refine s41 (h.perm (perm_l [_, _] (vecL 42 c.ov) Fr)) hc.vec (by rw [hlen]; omega) fun w9 x' h9 hx' => ⟨_, _, _, rfl, ?_⟩
  rw [hlen]
  exact hR w9 x' (h9.perm (List.Perm.append_left _ (perm_l [_, _] (vecL 42 c.ov) Fr).symm)) hx'

/-- (*Cache).ForgetDir -/
theorem s19 (h : Own w0 Im w (c.H ++ (c.d.L ++ Fr))) (hc : CacheOk c) (hb : c.d.waits.length < 4398046507000) (dir : Int)
    (hR : ∀ w' c', Own w0 Im w' (c'.H ++ (c'.d.L ++ Fr)) → CacheOk c' → Turned c c' (dirE c.E dir).1 c.last (dirE c.E dir).2 → R (.returned (.int .i64 (dirE c.E dir).2.length)) w') :
    Calls Tryd.prog 19 #[.pointer (some ⟨c.cb, 0, none⟩), .int .i64 dir] w R := by
  apply vc19
  unfold Vc19
  have hsm : c.E.length ≤ 4096 := by have := hc.full; have := hc.rhi; omega
  refine s22 h hc fun w4 x' h4 hx' => ⟨_, _, _, rfl, ?_⟩
  refine ⟨fun m v6 v7 w' => ∃ (j : Nat) (c1 : CacheG), m = c.E.length - j ∧ v7 = j ∧ j ≤ c.E.length ∧ v6 = (((c.E.take j).filter fun x => decide (x.key.1 = dir)).length : Nat) ∧ Own w0 Im w' (vecL 42 x' ++ (c1.H ++ (c1.d.L ++ Fr))) ∧ CacheOk c1 ∧
      Turned c c1 (((c.E.take j).filter fun x => !decide (x.key.1 = dir)) ++ c.E.drop j) c.last (((c.E.take j).filter fun x => decide (x.key.1 = dir)).map (·.id)),
    ⟨_, 0, c, rfl, rfl, by omega, by simp, h4, hc, by simpa using Turned.refl c⟩, ?_⟩
  rintro m v6 v7 w9 ⟨j, c1, rfl, rfl, hj, rfl, h9, hc1, ht⟩
  refine ⟨fun hlt => ?_, fun hge => ?_⟩
  · have hj' : j < c.E.length := by omega
    have ej : ((j : Nat) : Int).toNat = j := by omega
    obtain ⟨g, eg, hcell⟩ := vecE_at (e := 42) nameC_len h9 (fun p hp => List.mem_append_left _ hp) hx' (i := j) (by simpa using hj')
    have hk0 : (c.E.map (·.key))[j]'(by simpa using hj') = c.E[j].key := by simp
    rw [hk0] at hcell
    have hfl : ((c.E.take j).filter fun x => decide (x.key.1 = dir)).length ≤ j := by
      have h1 := List.length_filter_le (fun x : Kp => decide (x.key.1 = dir)) (c.E.take j)
      have h2 : (c.E.take j).length = j := by simp; omega
      omega
    refine ⟨_, _, eg, by omega, hlt, _, _, by rw [ej, Nat.zero_add]; exact hcell, fun b14 w15 e14 e15 => ?_⟩
    have h15 := h9.alloc' e14 e15
    refine ⟨h15.putOk 0 rfl (by simp), fun w16 e16 => ?_⟩
    have h16 : Own w0 Im w16 ((b14, .cells (nameC c.E[j].key).toArray 42 (0, 0)) :: (vecL 42 x' ++ (c1.H ++ (c1.d.L ++ Fr)))) := by rw [e16]; exact h15.put (nameC c.E[j].key) 0 0 rfl 0
    refine ⟨_, h16.cell 0 rfl _, fun hd => ?_, fun hd => ?_⟩
    · have hd' : c.E[j].key.1 = dir := hd
      have hdrop : c.E.drop j = c.E[j] :: c.E.drop (j + 1) := List.drop_eq_getElem_cons hj'
      have hE := ht.E
      rw [hdrop] at hE
      have hnd := hc1.nd
      rw [hE] at hnd
      have hf : findK c1.E c.E[j].key = some c.E[j] := findK_of_mem hc1.nd (by rw [hE]; exact List.mem_append_right _ (List.mem_cons_self ..))
      have hwl : c1.d.waits.length < 4398046511104 := by
        rw [ht.waits]; simp; omega
      refine ⟨_, _, h16.cellsAt 0 rfl (vs := nameC c.E[j].key) (fun j v hj => by rw [Nat.zero_add, List.getElem?_toArray]; exact hj), ?_⟩
      refine at_cb ht.cb ?_
      have h16p : Own w0 Im w16 (c1.H ++ (c1.d.L ++ (vecL 42 x' ++ Fr))) := (h16.tail rfl).perm ((perm_l (vecL 42 x') c1.H _).trans (List.Perm.append_left _ (perm_l (vecL 42 x') c1.d.L Fr)))
      refine s17 h16p hc1 hwl c.E[j].key (fun e => by rw [hf] at e; cases e) fun w21 c2 x hx h21 hc2 ht2 => ⟨_, rfl, fun _ r23 e23 r24 e24 => ?_, fun e => (by cases e)⟩
      rw [hf] at hx
      cases hx
      rw [wrap_id (by omega) (by omega)] at e23 e24
      have ht3 := ht.trans ht2
      rw [hE, lessK_mid hnd, ht.last] at ht3
      refine ⟨_, by omega, j + 1, c2, rfl, by omega, by omega, ?_, ?_, hc2, ?_⟩
      · rw [take_yes (p := fun x => decide (x.key.1 = dir)) hj' (by simp [hd']), List.length_append, List.length_singleton]; omega
      · exact h21.perm ((perm_l (vecL 42 x') c2.H _).trans (List.Perm.append_left _ (perm_l (vecL 42 x') c2.d.L Fr))).symm
      · rw [take_yes (p := fun x => decide (x.key.1 = dir)) hj' (by simp [hd']), take_no (p := fun x => !decide (x.key.1 = dir)) hj' (by simp [hd']), List.map_append]
        exact ht3
    · have hd' : ¬ c.E[j].key.1 = dir := hd
      intro r28 e28
      rw [wrap_id (by omega) (by omega)] at e28
      refine ⟨_, by omega, j + 1, c1, rfl, by omega, by omega, by rw [take_no (p := fun x => decide (x.key.1 = dir)) hj' (by simp [hd'])], h16.tail rfl, hc1, ?_⟩
      rw [take_no (p := fun x => decide (x.key.1 = dir)) hj' (by simp [hd']), take_yes (p := fun x => !decide (x.key.1 = dir)) hj' (by simp [hd']), List.append_assoc, List.singleton_append, ← List.drop_eq_getElem_cons hj']
      exact ht
  · have e : j = c.E.length := by omega
    subst e
    rw [List.take_length, List.drop_length, List.append_nil] at ht
    have := hR w9 c1 (h9.sub (List.sublist_append_right _ _)) hc1 ht
    rw [List.take_length]
    simpa [dirE] using this
end
end Go.Proofs.YtimokldcmpbjcaaDoor
