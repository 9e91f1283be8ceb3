/- A part of the proof: lemmas. -/
import Derived.Test.YtdhdbdpemejpjaaVcTlbO
namespace Go.Proofs.Ytdhdbdpemejpjaa
open Go Go.Vc
set_option maxRecDepth 100000
set_option linter.unusedVariables false

/-- Both keep the same. -/
structure Both (t : TlbG) (x : RefG) : Prop where
  size : t.size = x.size
  Es : t.Es = x.Es
  begun : t.begun = (x.A.length : Nat)
  sh : t.sh = shOf x.sh
theorem i64s_int (ps : List Int) : ps.flatMap intC = i64s ps := i64s_flat ps
section
variable {w0 w : World} {Im : Mem} {Fr L : List (Nat × Obj)} {t : TlbG} {x : RefG} {R : Ending → World → Prop}

theorem Both.len (hb : Both t x) : t.H.length = x.H.length := by rw [← Es_len, ← REs_len, hb.Es]
theorem RefOk.range (hx : RefOk x) : ∀ s ∈ x.sh, okTs x.H.length s.2 := by
  intro s hs
  obtain ⟨y, hy, rfl⟩ := List.mem_map.1 hs
  exact hx.left y hy
theorem RefOk.out (hx : RefOk x) {i : Int} (h : ¬ (0 ≤ i ∧ i < (x.H.length : Nat))) : ∀ s ∈ x.sh, i ∉ s.2 := fun s hs hi => h ((hx.range s hs).1 i hi)
/-- (*Tlb).Open -/
theorem s31 (h : Own w0 Im w (t.L ++ Fr)) (hR : R (.returned (.int .i64 (t.OM.length : Nat))) w) : Calls Try.prog 31 #[.pointer (some ⟨t.tb, 0, none⟩)] w R := by
  apply vc31
  unfold Vc31
  exact ⟨fun e => (by cases e), fun _ => ⟨_, _, rfl, _, h.cell 0 rfl _, _, Vc.run_len_map Try.underlying54 h (b := t.ob) (M := t.OM) (clk := t.oclk) (enc := Vc.encI .i64) (by simp [TlbG.L]), hR⟩⟩
/-- (*Tlb).Pending, as the reference has it -/
theorem s11b {i : Int} (h : Own w0 Im w (t.L ++ Fr)) (ht : TlbOk t) (hx : RefOk x) (hb : Both t x)
    (hR : ∀ w' v, Own w0 Im w' (vecL 3 v ++ (t.L ++ Fr)) → VecE intC 1 v (pendAt x.sh i x.A.length) → R (.returned (.slice (vecA v) (pendAt x.sh i x.A.length).length (vecC v))) w') :
    Calls Try.prog 11 #[.pointer (some ⟨t.tb, 0, none⟩), .int .i64 i] w R := by
  refine s11 h ht (fun hno => ?_) fun w' v ps h0 h1 h' hv hps _ => ?_
  · have e := pend_none (hx.out (by rw [← REs_len, ← hb.Es]; exact hno)) x.A.length
    have := hR w none h (by rw [e]; exact VecE.nil)
    rw [e] at this
    exact this
  · have hp2 := pend_of x.sh i.toNat
    rw [← hb.sh, Rsh_len] at hp2
    have e0 : ((i.toNat : Nat) : Int) = i := by omega
    rw [e0] at hp2
    have e := pend_uniq hps hp2
    subst e
    exact hR w' v h' (by unfold VecE; rw [i64s_int]; exact hv)
theorem int_at {v : VecB} {ps : List Int} (h : Own w0 Im w L) (hm : ∀ p ∈ vecL 3 v, p ∈ L) (hv : VecE intC 1 v ps) {j : Nat} (hj : j < ps.length) : ∃ g, vecA v = some ⟨g, 0, none⟩ ∧ w.cell? ⟨g, 0 + j, none⟩ = some (.int .i64 ps[j]) := by
  obtain ⟨g, e1, e2⟩ := vecE_cell (e := 3) intC_len h hm hv hj
  refine ⟨g, e1, ?_⟩
  have := e2 0 (by omega)
  rw [Nat.mul_one, Nat.add_zero] at this
  rw [Nat.zero_add]; exact this
/-- looks -/
theorem s19 (h : Own w0 Im w (t.L ++ (x.L ++ Fr))) (ht : TlbOk t) (hx : RefOk x) (hb : Both t x) (hA : x.A.length < 1099511627776)
    (hR : ∀ w', Own w0 Im w' (t.L ++ (x.L ++ Fr)) → R (.returned (.bool true)) w') : Calls Try.prog 19 #[.pointer (some ⟨t.tb, 0, none⟩), .pointer (some ⟨x.rb, 0, none⟩)] w R := by
  apply vc19
  unfold Vc19
  have hd := h.drew
  have hdx := hd.perm (perm_l t.L x.L Fr)
  have hlen := hb.len
  have hhi := hx.hi
  refine s31 hd ⟨_, rfl, ?_⟩
  refine s32 hdx hx hA ⟨_, rfl, fun e => absurd ?_ e, fun _ => ?_⟩
  · have := open_eq ht hb.sh
    rw [Rsh_len] at this
    rw [this]
  refine ⟨_, _, rfl, _, _, _, hdx.cell 0 rfl _, ?_⟩
  refine s33 hd ⟨_, rfl, hdx.cell 0 rfl _, fun e => absurd (by rw [hlen]) e, fun _ => ?_⟩
  refine ⟨fun m v w' => ∃ j : Nat, m = x.H.length + 3 - j ∧ v = (j : Int) - 1 ∧ j ≤ x.H.length + 2 ∧ Own w0 Im w' (t.L ++ (x.L ++ Fr)), ⟨_, 0, rfl, rfl, by omega, hd⟩, ?_⟩
  rintro m i w14 ⟨j, rfl, hi, hj, h14⟩
  refine ⟨_, _, _, (h14.perm (perm_l t.L x.L Fr)).cell 0 rfl _, fun hlt => ?_, fun _ => hR _ h14⟩
  refine s11b h14 ht hx hb fun w17 v h17 hv => ⟨_, _, _, rfl, ?_⟩
  refine s34 (Fr := vecL 3 v ++ (t.L ++ Fr)) (h17.perm (by_count fun a => by simp only [List.count_append]; omega)) hx hA fun w20 u h20 hu => ⟨_, _, _, rfl, ?_⟩
  refine s14 (t := t) (Fr := vecL 3 u ++ (vecL 3 v ++ (x.L ++ Fr))) (h20.perm (by_count fun a => by simp only [List.count_append]; omega)) ht fun w23 k h23 hk => ⟨_, _, _, rfl, ?_⟩
  obtain ⟨F, hF⟩ : ∃ F, F = vecL 31 k ++ (vecL 3 u ++ (vecL 3 v ++ (t.L ++ (x.L ++ Fr)))) := ⟨_, rfl⟩
  have h23F : Own w0 Im w23 F := h23.perm (by rw [hF]; exact by_count fun a => by simp only [List.count_append]; omega)
  have hFtx : ∀ {w'}, Own w0 Im w' F → Own w0 Im w' (t.L ++ (x.L ++ Fr)) := fun h => by
    rw [hF] at h
    exact h.sub ((List.sublist_append_right _ _).trans ((List.sublist_append_right _ _).trans (List.sublist_append_right _ _)))
  have hFx : ∀ {w'}, Own w0 Im w' F → Own w0 Im w' (x.L ++ Fr) := fun h => (hFtx h).sub (List.sublist_append_right _ _)
  have hEs : hartE t.Es i = hartE x.Es i := by rw [hb.Es]
  rw [hEs] at hk ⊢
  obtain ⟨E, hE⟩ : ∃ E, E = hartE x.Es i := ⟨_, rfl⟩
  have hin_of : 0 < E.length → 0 ≤ i ∧ i < (x.H.length : Nat) := fun hp => by
    refine Classical.not_not.1 fun hn => ?_
    rw [← REs_len] at hn
    rw [hE, hartE_no hn] at hp
    exact absurd hp (by decide)
  have hE_of : ∀ (h1 : i.toNat < x.H.length), 0 ≤ i → x.H[i.toNat].E = E := fun h1 h0 => by
    obtain ⟨hl, he⟩ := hartE_at (Es := x.Es) h0 (by rw [REs_len]; omega)
    rw [hE, he]; simp [RefG.Es]
  have hEl : E.length ≤ 64 := by
    by_cases hp : 0 < E.length
    · obtain ⟨h0, h1⟩ := hin_of hp
      have := hx.room _ (List.getElem_mem (show i.toNat < x.H.length by omega))
      rw [hE_of (by omega) h0] at this
      have := hx.shi
      omega
    · omega
  have hpl := pendAt_len x.sh i x.A.length
  generalize hP : pendAt x.sh i x.A.length = ps at *
  have hnext : ∀ {w'} r (e : r = IntKind.wrap .i64 (i + 1)), Own w0 Im w' F → ∃ m47, m47 < x.H.length + 3 - j ∧ ∃ j' : Nat, m47 = x.H.length + 3 - j' ∧ r = (j' : Int) - 1 ∧ j' ≤ x.H.length + 2 ∧ Own w0 Im w' (t.L ++ (x.L ++ Fr)) := fun r e h => by
    rw [wrap_id (by omega) (by omega)] at e
    exact ⟨x.H.length + 3 - (j + 1), by omega, j + 1, rfl, by omega, by omega, hFtx h⟩
  refine ⟨fun n w' => n = ((E.length : Nat) : Int) ∧ Own w0 Im w' F, ?_, ?_⟩
  · rintro n w26 ⟨rfl, h26⟩
    refine ⟨fun e => absurd rfl e, fun _ => ⟨fun e => absurd (by rw [hE]) e, fun _ => ?_⟩⟩
    refine ⟨fun w' => Own w0 Im w' F, ?_, ?_⟩
    · intro w27 h27
      refine ⟨fun m v w' => ∃ q : Nat, m = E.length - q ∧ v = q ∧ q ≤ E.length ∧ Own w0 Im w' F, ⟨_, 0, rfl, rfl, by omega, h27⟩, ?_⟩
      rintro m v28 w30 ⟨q, rfl, rfl, hq, h30⟩
      refine ⟨fun hlt2 => ?_, fun hge r46 e46 => hnext r46 e46 h30⟩
      have hq' : q < E.length := by omega
      obtain ⟨h0, h1⟩ := hin_of (by omega)
      have hil : i.toNat < x.H.length := by omega
      have hEi := hE_of hil h0
      have hdd := h30.drew
      obtain ⟨g2, eg2, hc2⟩ := RefG.hartAt (hFx hdd) hx hil
      have hq2 : q < x.H[i.toNat].E.length := by rw [hEi]; exact hq'
      obtain ⟨g3, eg3, hc3⟩ := RefG.keptAt (hFx hdd) hx hil hq2
      have hEj : x.H[i.toNat].E[q] = E[q] := by simp only [hEi]
      rw [hEj] at hc3
      rw [hEi] at hc2
      rw [← hE] at hk
      have hqm : q < (E.map (·.1)).length := by simpa using hq'
      obtain ⟨g4, eg4, hc4⟩ := vecE_cell (e := 31) keyC_len hdd (fun p hp => by rw [hF]; exact List.mem_append_left _ hp) hk hqm
      rw [List.getElem_map] at hc4
      have hcx : w30.drew.cell? ⟨x.rb, 0 + 1, none⟩ = some (.slice (vecA x.hv) x.H.length (vecC x.hv)) := (hFx hdd).cell 0 rfl _
      refine ⟨_, _, eg4, by omega, by rw [← hE]; omega, _, _, cellsAt2 (by rw [Nat.zero_add]; exact hc4 0 (by omega)) (by rw [Nat.zero_add]; exact hc4 1 (by omega)), _, _, _, hcx, _, _, eg2, h0, h1, _, _, _, hc2, _, _, eg3, by omega, hlt2, _, _, cellsAt2 (hc3 0 (by omega)) (hc3 1 (by omega)), !decide (E[q].1 = E[q].1), fun w' => key_guard _ _ w', fun w' => key_ne _ _ w', fun e => ?_, fun _ r44 e44 => ?_⟩
      · simp at e
      · rw [wrap_id (by omega) (by omega)] at e44
        exact ⟨_, by omega, q + 1, rfl, by omega, by omega, hdd⟩
    · refine ⟨fun m v w' => ∃ q : Nat, m = ps.length - q ∧ v = q ∧ q ≤ ps.length ∧ Own w0 Im w' F, ⟨_, 0, rfl, rfl, by omega, h26⟩, ?_⟩
      rintro m v48 w50 ⟨q, rfl, rfl, hq, h50⟩
      refine ⟨fun hlt2 => ?_, fun hge => h50⟩
      have hq' : q < ps.length := by omega
      have hdd := h50.drew
      obtain ⟨g2, eg2, hc2⟩ := int_at hdd (fun p hp => by rw [hF]; simp [hp]) hv hq'
      obtain ⟨g3, eg3, hc3⟩ := int_at hdd (fun p hp => by rw [hF]; simp [hp]) hu hq'
      refine ⟨_, _, eg2, by omega, hlt2, _, _, eg3, by omega, hlt2, _, hc2, _, hc3, fun e => absurd rfl e, fun _ r57 e57 => ?_⟩
      rw [wrap_id (by omega) (by omega)] at e57
      exact ⟨_, by omega, q + 1, rfl, by omega, by omega, hdd⟩
  · refine ⟨fun b w' => b = decide (0 ≤ i ∧ i < (x.H.length : Nat)) ∧ Own w0 Im w' F, ?_, ?_⟩
    · rintro b w60 ⟨rfl, h60⟩
      refine ⟨fun e => ?_, fun e => ?_⟩
      · have e := of_decide_eq_true e
        have hil : i.toNat < x.H.length := by omega
        obtain ⟨g2, eg2, hc2⟩ := RefG.hartAt (hFx h60) hx hil
        exact ⟨_, _, _, (hFx h60).cell 0 rfl _, _, _, eg2, e.1, e.2, _, _, _, hc2, by rw [hE_of hil e.1], h60⟩
      · have e := of_decide_eq_false e
        rw [← REs_len] at e
        exact ⟨by rw [hE, hartE_no e]; rfl, h60⟩
    · refine ⟨fun h0 => ⟨_, _, _, (hFx h23F).cell 0 rfl _, ?_, h23F⟩, fun h0 => ⟨?_, h23F⟩⟩
      · simp [h0]
      · rw [decide_eq_false (by omega)]
end
end Go.Proofs.Ytdhdbdpemejpjaa
