/- A part of the proof: lemmas. -/
import Derived.Test.YtdhdbdpemejpjaaVcTlbK
namespace Go.Proofs.Ytdhdbdpemejpjaa
open Go Go.Vc
set_option maxRecDepth 100000
set_option linter.unusedVariables false

theorem fill_yes {E : List (Key × Int)} {size e : Int} {k : Key} {j : Nat} (hn : (E.map (·.1)).Nodup) (hj : j < E.length) (hk : E[j].1 = k) : E.set j (E[j].1, e) = fillE E size k e := by
  unfold fillE
  rw [if_pos (by rw [← hk]; exact List.mem_map_of_mem (List.getElem_mem hj))]
  refine List.ext_getElem (by simp) fun i h1 h2 => ?_
  rw [List.getElem_set, List.getElem_map]
  by_cases hij : j = i
  · subst hij; rw [if_pos rfl, if_pos hk, hk]
  · rw [if_neg hij, if_neg]
    intro h3
    have hi : i < E.length := by simpa using h2
    have h4 : (E.map (·.1))[i]'(by simpa using hi) = (E.map (·.1))[j]'(by simpa using hj) := by simp only [List.getElem_map]; rw [h3, hk]
    exact hij ((List.getElem_inj hn).1 h4).symm
section
variable {w0 w : World} {Im : Mem} {Fr L : List (Nat × Obj)} {x : RefG} {R : Ending → World → Prop}

theorem Es_at {i : Nat} (hi : i < x.H.length) : x.H[i].E = x.Es[i]'(by rw [REs_len]; exact hi) := by simp [RefG.Es]
/-- Fill -/
theorem s26 {i : Int} {k : Key} {entry : Int} (h : Own w0 Im w (x.L ++ Fr)) (hx : RefOk x)
    (hno : ¬ (0 ≤ i ∧ i < x.Es.length) → ∀ w', Own w0 Im w' (x.L ++ Fr) → R (.returned (.int .i64 1)) w')
    (hR : ∀ w' x', 0 ≤ i → i < x.Es.length → Own w0 Im w' (x'.L ++ Fr) → RefOk x' → RTurn x x' (x.Es.set i.toNat (fillE (hartE x.Es i) x.size k entry)) x.sh → R (.returned (.int .i64 0)) w') :
    Calls Try.prog 26 #[.pointer (some ⟨x.rb, 0, none⟩), .int .i64 i, .agg #[.int .i64 k.1, .int .i64 k.2], .int .u32 entry] w R := by
  apply vc26
  unfold Vc26
  intro b6 w7 e6 e7
  have h7 := h.alloc' e6 e7
  refine s41 (h7.tail rfl) ⟨_, rfl, fun hin => ?_, fun hout => hno (by rw [REs_len]; exact of_decide_eq_false hout) _ (h7.tail rfl)⟩
  have hin := of_decide_eq_true hin
  have hil : i.toNat < x.H.length := by omega
  obtain ⟨hl2, he⟩ := hartE_at (Es := x.Es) hin.1 (by rw [REs_len]; exact hin.2)
  have hE : hartE x.Es i = x.H[i.toNat].E := by rw [he]; simp [RefG.Es]
  have hR := fun w' x' => hR w' x' hin.1 (by rw [REs_len]; exact hin.2)
  rw [hE] at hR
  have hroom := hx.room _ (List.getElem_mem hil)
  have hnd := hx.nd _ (List.getElem_mem hil)
  have := hx.shi
  have := hx.slo
  generalize hEE : x.H[i.toNat].E = E at *
  refine ⟨fun w' => Own w0 Im w' ((b6, .cells (keyC k).toArray 31 (0, 0)) :: (x.L ++ Fr)) ∧ ∀ y ∈ E, y.1 ≠ k, ?_, ?_⟩
  · rintro w11 ⟨h11, hne⟩
    have hkn : k ∉ E.map (·.1) := fun hm => by
      obtain ⟨y, hy, e⟩ := List.mem_map.1 hm
      exact hne y hy e
    refine ⟨fun w' => ∃ x1 : RefG, Own w0 Im w' ((b6, .cells (keyC k).toArray 31 (0, 0)) :: (x1.L ++ Fr)) ∧ RefOk x1 ∧ RTurn x x1 (x.Es.set i.toNat (if x.size ≤ E.length then E.tail else E)) x.sh ∧ x1.H.length = x.H.length, ?_, ?_⟩
    · rintro w12 ⟨x1, h12, hx1, ht1, hl1⟩
      obtain ⟨E1, hE1⟩ : ∃ E1, E1 = (if x.size ≤ (E.length : Int) then E.tail else E) := ⟨_, rfl⟩
      rw [← hE1] at ht1
      have hil1 : i.toNat < x1.H.length := by omega
      have hx1E : x1.H[i.toNat].E = E1 := by
        rw [Es_at hil1]
        have := ht1.Es
        simp only [this, List.getElem_set_self]
      have hsub : E1.Sublist E := by
        rw [hE1]; split
        · exact List.tail_sublist E
        · exact List.Sublist.refl E
      have hlen1 : (E1.length : Int) + 1 ≤ x.size := by
        rw [hE1]; split
        · rw [List.length_tail]; omega
        · omega
      have hd := h12.drew
      obtain ⟨g2, eg2, hc2⟩ := RefG.hartAt (hd.tail rfl) hx1 hil1
      have hin2 : i < ((x1.H.length : Nat) : Int) := by rw [hl1]; exact hin.2
      refine ⟨_, _, by rw [← ht1.rb], _, _, _, hd.cell 1 rfl _, _, _, _, hd.cell 1 rfl _, _, _, eg2, hin.1, hin2, _, _, _, hc2, k.1, k.2, keyAt hd, fun b22 w23 e22 e23 => ?_⟩
      have h23 := hd.alloc' e22 e23
      obtain ⟨g3, eg3, hc3⟩ := RefG.hartAt (w := w23) (x := x1) (Fr := Fr) ((h23.tail rfl).tail rfl) hx1 hil1
      rw [eg2] at eg3
      have eg : g2 = g3 := by simpa using eg3
      subst eg
      refine ⟨keyAt (h23.tail rfl), hc3, h23.cell 2 rfl _, h23.cell 2 rfl _, ?_⟩
      have po : ((b22, Obj.cells (keptC (k, entry)).toArray 75 (0, 0)) :: (b6, Obj.cells (keyC k).toArray 31 (0, 0)) :: (x1.L ++ Fr)).Perm (vecL 75 x1.H[i.toNat].v ++ ([(b22, Obj.cells (keptC (k, entry)).toArray 75 (0, 0)), (b6, Obj.cells (keyC k).toArray 31 (0, 0))] ++ (x1.restH i.toNat ++ Fr))) :=
        (List.Perm.append_left [_, _] (RefG.openH hil1)).trans (perm_l [_, _] _ _)
      have hev := hx1.ev _ (List.getElem_mem hil1)
      rw [hx1E] at hev
      obtain ⟨v', w24, hr, h24, hv'⟩ := vecE_append (n := 3) (P := Try.prog) (t := 73) (ty := 73) (e := 75) (bytes := 24) (z := .agg #[.int .i64 0, .int .i64 0, .int .u32 0]) Try.underlying73 Try.type75 rfl rfl rfl rfl keptC_len keptC_one (h23.perm po) hev (a := some ⟨b22, 0, none⟩) (c := 1) (ys := [(k, entry)])
        (fun _ => ⟨_, rfl, h23.cellsAt 0 rfl (fun j v hj => by rw [Nat.zero_add, List.getElem?_toArray]; exact (show (keptC (k, entry))[j]? = some v from by simpa using hj))⟩) (by simp only [List.length_singleton]; omega) (by simp only [List.length_singleton, maxLen]; omega)
      rw [hx1E]
      refine ⟨_, _, _, w24, hr, ?_⟩
      have h24k : Own w0 Im w24 ((b6, Obj.cells (keyC k).toArray 31 (0, 0)) :: (x1.rb, .cells x1.cells 71 (0, 0)) :: []) := by
        refine (h24.perm (L' := [(b6, Obj.cells (keyC k).toArray 31 (0, 0)), (x1.rb, .cells x1.cells 71 (0, 0))] ++ ((b22, Obj.cells (keptC (k, entry)).toArray 75 (0, 0)) :: (vecL 75 v' ++ (vecL 73 x1.hv ++ (vecL 84 x1.av ++ ((x1.H.eraseIdx i.toNat).flatMap RH.L ++ (x1.A.flatMap RS.L ++ Fr))))))) (by_count fun a => ?_)).sub (List.sublist_append_left _ _)
        simp only [RefG.restH, List.count_append, List.cons_append, List.count_cons, List.count_nil]
        omega
      have h24s : Own w0 Im w24 (vecL 75 v' ++ (x1.restH i.toNat ++ Fr)) := h24.sub (List.Sublist.append_left (List.sublist_append_right _ _) _)
      obtain ⟨g4, eg4, c1, c2, x2, h28, hx2, ht2⟩ := RefG.setH h24s hx1 hil1 hv' (by
        rw [List.map_append, List.nodup_append]
        refine ⟨List.Nodup.sublist (hsub.map _) hnd, by simp, fun a ha b hb => ?_⟩
        simp at hb; subst hb
        intro hab
        exact hkn (hab ▸ (hsub.map _).subset ha)) (by rw [ht1.size]; simp only [List.length_append, List.length_singleton]; omega)
      refine ⟨keyAt h24k, h24k.cell 1 rfl _, h24k.cell 1 rfl _, _, _, eg4, hin.1, hin2, c1, c2, fun w28 e28 => ?_⟩
      simp only [List.length_append] at h28
      rw [← e28] at h28
      refine hR w28 x2 h28 hx2 ⟨ht2.rb.trans ht1.rb, ht2.size.trans ht1.size, ?_, ht2.sh.trans ht1.sh⟩
      rw [ht2.Es, ht1.Es, List.set_set]
      unfold fillE
      rw [if_neg hkn, hE1]
    · have hd := h11.drew
      obtain ⟨g2, eg2, hc2⟩ := RefG.hartAt (hd.tail rfl) hx hil
      refine ⟨_, _, rfl, _, _, _, hd.cell 1 rfl _, _, _, eg2, hin.1, hin.2, _, _, _, hc2, _, hd.cell 1 rfl _, fun hfull => ?_, fun hno => ?_⟩
      · rw [hEE] at hfull
        have hdd := hd.drew
        obtain ⟨g3, eg3, hc3⟩ := RefG.hartAt (hdd.tail rfl) hx hil
        refine ⟨_, _, _, hdd.cell 1 rfl _, _, _, _, hdd.cell 1 rfl _, _, _, eg3, hin.1, hin.2, _, _, _, hc3, by decide, by rw [hEE]; omega, fun a41 e41 b42 w43 e42 e43 => ?_⟩
        have h43 := hdd.alloc' e42 e43
        obtain ⟨g4, eg4, hc4⟩ := RefG.hartAt (w := w43) (x := x) (Fr := Fr) ((h43.tail rfl).tail rfl) hx hil
        rw [eg3] at eg4
        have eg : g3 = g4 := by simpa using eg4
        subst eg
        refine ⟨hc4, h43.cell 2 rfl _, h43.cell 2 rfl _, ?_⟩
        have hev := hx.ev _ (List.getElem_mem hil)
        rw [hEE] at hev
        obtain ⟨v', w44, hr, h44, hv'⟩ := vecE_append (n := 3) (P := Try.prog) (t := 73) (ty := 73) (e := 75) (bytes := 24) (z := .agg #[.int .i64 0, .int .i64 0, .int .u32 0]) Try.underlying73 Try.type75 rfl rfl rfl rfl keptC_len keptC_one (x := some (b42, 0, [])) (xs := []) (L := (b6, .cells (keyC k).toArray 31 (0, 0)) :: (x.L ++ Fr)) h43
          ⟨rfl, Nat.le_refl _, Nat.zero_le _, rfl, rfl⟩ (a := a41) (c := vecC x.H[i.toNat].v - 1) (ys := E.drop 1)
          (fun hne => by
            rw [e41]
            exact vecE_from keptC_len h43 (fun p hp => by
              have : p ∈ x.L ++ Fr := (RefG.openH hil).mem_iff.2 (List.mem_append_left _ hp)
              simp only [List.mem_cons]; exact .inr (.inr this)) hev 1 hne) (by simp only [List.length_nil, List.length_drop]; omega) (by simp only [List.length_nil, List.length_drop, maxLen]; omega)
        have hdl : x.H[i.toNat].E.length - (1 : Int).toNat = (E.drop 1).length := by rw [hEE]; simp
        rw [hdl]
        simp only [List.length_nil, Nat.zero_add, List.nil_append] at hr hv'
        refine ⟨_, _, _, w44, hr, ?_⟩
        have h44x : Own w0 Im w44 (x.L ++ Fr) := (h44.sub (List.sublist_append_right _ _)).tail rfl
        have h44x2 := h44.sub (List.sublist_append_right _ _)
        obtain ⟨g5, eg5, hc5⟩ := RefG.hartAt h44x hx hil
        rw [eg3] at eg5
        have eg : g3 = g5 := by simpa using eg5
        subst eg
        have h44s : Own w0 Im w44 (vecL 75 v' ++ (x.restH i.toNat ++ ((b6, .cells (keyC k).toArray 31 (0, 0)) :: Fr))) := by
          refine RefG.dropH (h44.perm ?_) hil
          exact List.Perm.append_left _ (List.perm_middle.symm)
        obtain ⟨g4, eg4, c1, c2, x2, h28, hx2, ht2⟩ := RefG.setH h44s hx hil hv' (List.Nodup.sublist ((List.drop_sublist 1 E).map _) hnd) (by simp only [List.length_drop]; omega)
        rw [eg3] at eg4
        have eg : g3 = g4 := by simpa using eg4
        subst eg
        refine ⟨hc5, h44x2.cell 1 rfl _, h44x2.cell 1 rfl _, _, _, eg3, hin.1, hin.2, c1, c2, fun w48 e48 => ?_⟩
        rw [← e48] at h28
        refine ⟨x2, h28.perm List.perm_middle, hx2, ?_, by rw [← REs_len, ht2.Es, List.length_set, REs_len]⟩
        rw [if_pos (by omega), ← List.drop_one]
        exact ht2
      · rw [hEE] at hno
        refine ⟨x, hd, hx, ?_, rfl⟩
        rw [if_neg (by omega)]
        have e : x.Es.set i.toNat E = x.Es := set_self (by rw [← hEE, Es_at hil]; simp)
        rw [e]
        exact RTurn.refl x
  · refine ⟨fun m v w' => ∃ j : Nat, m = E.length - j ∧ v = j ∧ j ≤ E.length ∧ (∀ y ∈ E.take j, y.1 ≠ k) ∧ Own w0 Im w' ((b6, .cells (keyC k).toArray 31 (0, 0)) :: (x.L ++ Fr)), ⟨_, 0, rfl, rfl, by omega, by simp, h7⟩, ?_⟩
    rintro m v w12 ⟨j, rfl, rfl, hj, hne, h12⟩
    obtain ⟨g, eg, hc⟩ := RefG.hartAt (h12.tail rfl) hx hil
    rw [hEE] at hc
    refine ⟨_, _, rfl, _, _, _, h12.cell 1 rfl _, _, _, eg, hin.1, hin.2, _, _, _, hc, fun hlt => ?_, fun hge => ?_⟩
    · have hj' : j < E.length := by omega
      have hj2 : j < x.H[i.toNat].E.length := by rw [hEE]; omega
      have hd := h12.drew
      obtain ⟨g2, eg2, hc2⟩ := RefG.hartAt (hd.tail rfl) hx hil
      obtain ⟨g3, eg3, hc3⟩ := RefG.keptAt (hd.tail rfl) hx hil hj2
      have hEj : x.H[i.toNat].E[j] = E[j] := by simp only [hEE]
      rw [hEj] at hc3
      rw [hEE] at hc2
      refine ⟨_, _, _, hd.cell 1 rfl _, _, _, eg2, hin.1, hin.2, _, _, _, hc2, _, _, eg3, by omega, hlt, _, _, cellsAt2 (hc3 0 (by omega)) (hc3 1 (by omega)), k.1, k.2, keyAt hd, decide (E[j].1 = k), fun w' => key_guard _ _ w', fun w' => key_eq _ _ w', fun e => ?_, fun e r37 e37 => ?_⟩
      · have e := of_decide_eq_true e
        obtain ⟨g4, eg4, c1, c2, x', h', hx', ht'⟩ := RefG.setE (hd.tail rfl) hx hil hj2 entry
        rw [eg3] at eg4
        have eg : g3 = g4 := by simpa using eg4
        subst eg
        refine ⟨_, _, _, hd.cell 1 rfl _, _, _, eg2, hin.1, hin.2, _, _, _, hc2, _, _, eg3, by omega, hlt, c1, c2, fun w75 e75 => ?_⟩
        have e1 : x.H[i.toNat].E.set j (x.H[i.toNat].E[j].1, entry) = fillE E x.size k entry := by
          rw [← fill_yes hnd hj' e]; simp only [hEE]
        rw [e1] at ht'
        exact hR w75 x' (by rw [e75]; exact h') hx' ht'
      · have e := of_decide_eq_false e
        rw [wrap_id (by omega) (by omega)] at e37
        exact ⟨_, by omega, j + 1, rfl, by omega, by omega, take_ne hj' hne e, hd⟩
    · have hj' : j = E.length := by omega
      rw [hj', List.take_length] at hne
      exact ⟨h12, hne⟩
end
end Go.Proofs.Ytdhdbdpemejpjaa
