/- A part of the proof: lemmas. -/
import Derived.Test.YtdhdbdpemejpjaaVcTlbL
namespace Go.Proofs.Ytdhdbdpemejpjaa
open Go Go.Vc
set_option maxRecDepth 100000
set_option linter.unusedVariables false

theorem keep_yes {E : List (Key × Int)} {sp : Int} {j : Nat} (hj : j < E.length) (h : E[j].1.1 = sp) : keepE (E.take (j + 1)) sp = keepE (E.take j) sp :=
  kept_yes (p := fun e : Key × Int => decide (e.1.1 = sp)) hj (by simpa using h)
theorem keep_no {E : List (Key × Int)} {sp : Int} {j : Nat} (hj : j < E.length) (h : E[j].1.1 ≠ sp) : keepE (E.take (j + 1)) sp = keepE (E.take j) sp ++ [E[j]] :=
  kept_no (p := fun e : Key × Int => decide (e.1.1 = sp)) hj (by simpa using h)
theorem keep_len (E : List (Key × Int)) (sp : Int) : (keepE E sp).length ≤ E.length := List.length_filter_le _ _
theorem keep_sub (E : List (Key × Int)) (sp : Int) : (keepE E sp).Sublist E := List.filter_sublist
/-- The shootdowns that wait for a hart. -/
def waitR (A : List (Int × List Int)) (h : Int) (i : Nat) : Bool := decide (h ∈ (A.getD i (0, [])).2)
def pendAt (A : List (Int × List Int)) (h : Int) (j : Nat) : List Int := ((List.range j).filter (waitR A h)).map fun (i : Nat) => (i : Int) + 1
theorem pendAt_yes {A : List (Int × List Int)} {h : Int} {j : Nat} (hw : waitR A h j = true) : pendAt A h (j + 1) = pendAt A h j ++ [(j : Int) + 1] := by
  unfold pendAt
  rw [List.range_succ, List.filter_append, List.map_append]
  simp [hw]
theorem pendAt_no {A : List (Int × List Int)} {h : Int} {j : Nat} (hw : waitR A h j = false) : pendAt A h (j + 1) = pendAt A h j := by
  unfold pendAt
  rw [List.range_succ, List.filter_append, List.map_append]
  simp [hw]
theorem pendAt_len (A : List (Int × List Int)) (h : Int) (j : Nat) : (pendAt A h j).length ≤ j := by
  unfold pendAt
  rw [List.length_map]
  have := List.length_filter_le (waitR A h) (List.range j)
  rw [List.length_range] at this
  exact this
def overR (A : List (Int × List Int)) (id : Int) : Bool := decide (1 ≤ id ∧ id ≤ (A.length : Nat)) && decide ((A.getD (id - 1).toNat (0, [])).2 = [])
def openAt (A : List (Int × List Int)) (j : Nat) : Nat := (((A.take j).filter fun s => !decide (s.2 = [])).length)
theorem okTs_len {n : Nat} {ts : List Int} (h : okTs n ts) : ts.length ≤ n := by
  have h1 : (ts.map (· + 1)).Nodup := by
    rw [List.nodup_iff_pairwise_ne, List.pairwise_map]
    exact (List.nodup_iff_pairwise_ne.1 h.2).imp fun h => by omega
  have := nodup_bound h1 (n := n) (fun x hx => by
    obtain ⟨y, hy, rfl⟩ := List.mem_map.1 hx
    have := h.1 y hy
    omega) (by omega)
  rw [List.length_map] at this
  omega
section
variable {w0 w : World} {Im : Mem} {Fr L : List (Nat × Obj)} {x : RefG} {R : Ending → World → Prop}

theorem sh_at {j : Nat} (hj : j < x.A.length) : x.sh[j]'(by rw [Rsh_len]; exact hj) = (x.A[j].sp, x.A[j].left) := by simp [RefG.sh]
theorem sh_getD {j : Nat} (hj : j < x.A.length) : x.sh.getD j (0, []) = (x.A[j].sp, x.A[j].left) := by
  rw [List.getD_eq_getElem?_getD, List.getElem?_eq_getElem (by rw [Rsh_len]; exact hj), sh_at hj]; rfl
/-- Flush -/
theorem s27 {i sp : Int} (h : Own w0 Im w (x.L ++ Fr)) (hx : RefOk x)
    (hR : ∀ w' x', Own w0 Im w' (x'.L ++ Fr) → RefOk x' → RTurn x x' (flushEs x.Es i sp) x.sh → R (.returned (.int .i64 (((hartE x.Es i).length : Int) - ((keepE (hartE x.Es i) sp).length : Int)))) w') :
    Calls Try.prog 27 #[.pointer (some ⟨x.rb, 0, none⟩), .int .i64 i, .int .i64 sp] w R := by
  apply vc27
  unfold Vc27
  refine s41 h ⟨_, rfl, fun hin => ?_, fun hout => by
    have hout := of_decide_eq_false hout
    rw [← REs_len] at hout
    have := hR _ x h hx (by unfold flushEs; rw [if_neg hout]; exact RTurn.refl x)
    rw [hartE_no hout] at this
    exact this⟩
  have hin := of_decide_eq_true hin
  have hil : i.toNat < x.H.length := by omega
  obtain ⟨hl2, he⟩ := hartE_at (Es := x.Es) hin.1 (by rw [REs_len]; exact hin.2)
  have hE : hartE x.Es i = x.H[i.toNat].E := by rw [he]; simp [RefG.Es]
  rw [hE] at hR
  have hroom := hx.room _ (List.getElem_mem hil)
  have hnd := hx.nd _ (List.getElem_mem hil)
  have := hx.shi
  generalize hEE : x.H[i.toNat].E = E at *
  refine ⟨fun a l c w' => ∃ v, a = vecA v ∧ l = (keepE E sp).length ∧ c = vecC v ∧ Own w0 Im w' (vecL 75 v ++ (x.L ++ Fr)) ∧ VecE keptC 3 v (keepE E sp), ?_, ?_⟩
  · rintro _ _ _ w8 ⟨v, rfl, rfl, rfl, h8, hv⟩
    have hs := h8.sub (List.sublist_append_right (vecL 75 v) (x.L ++ Fr))
    obtain ⟨g2, eg2, hc2⟩ := RefG.hartAt hs hx hil
    have hkl := keep_len E sp
    obtain ⟨g4, eg4, c1, c2, x2, h28, hx2, ht2⟩ := RefG.setH (RefG.dropH h8 hil) hx hil hv (List.Nodup.sublist ((keep_sub E sp).map _) hnd) (by omega)
    rw [eg2] at eg4
    have eg : g2 = g4 := by simpa using eg4
    subst eg
    rw [hEE] at hc2
    refine ⟨_, _, rfl, _, _, _, hs.cell 0 rfl _, _, _, eg2, hin.1, hin.2, _, _, _, hc2, fun r15 e15 => ⟨_, _, _, hs.cell 0 rfl _, _, _, eg2, hin.1, hin.2, c1, c2, fun w19 e19 => ?_⟩⟩
    rw [wrap_id (by omega) (by omega)] at e15
    subst e15
    refine hR w19 x2 (by rw [e19]; exact h28) hx2 ?_
    unfold flushEs
    rw [if_pos (by rw [REs_len]; exact hin), hE]
    exact ht2
  · refine ⟨fun m a l c v21 w' => ∃ (j : Nat) (v : VecB), m = E.length - j ∧ v21 = j ∧ j ≤ E.length ∧ a = vecA v ∧ l = (keepE (E.take j) sp).length ∧ c = vecC v ∧ Own w0 Im w' (vecL 75 v ++ (x.L ++ Fr)) ∧ VecE keptC 3 v (keepE (E.take j) sp),
      ⟨_, 0, none, rfl, rfl, by omega, rfl, rfl, rfl, h, VecE.nil⟩, ?_⟩
    rintro m a l c v21 w' ⟨j, v, rfl, rfl, hj, rfl, rfl, rfl, h', hv⟩
    have hs := h'.sub (List.sublist_append_right (vecL 75 v) (x.L ++ Fr))
    obtain ⟨g2, eg2, hc2⟩ := RefG.hartAt hs hx hil
    rw [hEE] at hc2
    refine ⟨_, _, rfl, _, _, _, hs.cell 0 rfl _, _, _, eg2, hin.1, hin.2, _, _, _, hc2, fun hlt => ?_, fun hge => ?_⟩
    · have hj' : j < E.length := by omega
      have hj2 : j < x.H[i.toNat].E.length := by rw [hEE]; omega
      obtain ⟨g3, eg3, hc3⟩ := RefG.keptAt hs hx hil hj2
      have hEj : x.H[i.toNat].E[j] = E[j] := by simp only [hEE]
      rw [hEj] at hc3
      refine ⟨_, _, _, hs.cell 0 rfl _, _, _, eg2, hin.1, hin.2, _, _, _, hc2, _, _, eg3, by omega, hlt, _, hc3 0 (by omega), fun hne => ?_, fun heq r52 e52 => ?_⟩
      · refine ⟨_, _, _, hs.cell 0 rfl _, _, _, eg2, hin.1, hin.2, _, _, _, hc2, _, _, eg3, by omega, hlt, _, _, _, cellsAt3 (hc3 0 (by omega)) (hc3 1 (by omega)) (hc3 2 (by omega)), fun b46 w47 e46 e47 => ?_⟩
        have h47 := h'.alloc' e46 e47
        have hkl := keep_len (E.take j) sp
        rw [List.length_take] at hkl
        obtain ⟨v', w48, hr, h48, hv'⟩ := vecE_append (n := 3) (P := Try.prog) (t := 73) (ty := 73) (e := 75) (bytes := 24) (z := .agg #[.int .i64 0, .int .i64 0, .int .u32 0]) Try.underlying73 Try.type75 rfl rfl rfl rfl keptC_len keptC_one (h47.perm (perm_l [_] (vecL 75 v) _)) hv (a := some ⟨b46, 0, none⟩) (c := 1) (ys := [E[j]])
          (fun _ => ⟨_, rfl, h47.cellsAt 0 rfl (fun q u hq => by rw [Nat.zero_add, List.getElem?_toArray]; exact (show (keptC E[j])[q]? = some u from by simpa using hq))⟩) (by simp only [List.length_singleton]; omega) (by simp only [List.length_singleton, maxLen]; omega)
        refine ⟨_, _, _, w48, hr, fun r50 e50 => ?_⟩
        rw [wrap_id (by omega) (by omega)] at e50
        rw [← keep_no hj' hne] at hv'
        exact ⟨_, by omega, j + 1, v', rfl, by omega, by omega, rfl, by rw [keep_no hj' hne]; simp, rfl, h48.sub (List.Sublist.append_left (List.sublist_append_right _ _) _), hv'⟩
      · rw [wrap_id (by omega) (by omega)] at e52
        exact ⟨_, by omega, j + 1, v, rfl, by omega, by omega, rfl, by rw [keep_yes hj' heq], rfl, h', by rw [keep_yes hj' heq]; exact hv⟩
    · have hj' : j = E.length := by omega
      rw [hj', List.take_length] at hv
      exact ⟨v, rfl, by rw [hj', List.take_length], rfl, h', hv⟩
/-- Over -/
theorem s30 {id : Int} (h : Own w0 Im w (x.L ++ Fr)) (hx : RefOk x) (hA : x.A.length < 1099511627776) (hR : R (.returned (.bool (overR x.sh id))) w) : Calls Try.prog 30 #[.pointer (some ⟨x.rb, 0, none⟩), .int .i64 id] w R := by
  apply vc30
  unfold Vc30
  unfold overR at hR
  rw [Rsh_len] at hR
  refine ⟨fun h1 => ⟨_, _, rfl, _, _, _, h.cell 0 rfl _, fun h2 => ⟨_, _, _, h.cell 0 rfl _, fun r7 e7 => ?_⟩, fun h2 => ?_⟩, fun h1 => ?_⟩
  · rw [wrap_id (by omega) (by omega)] at e7
    have hi : (id - 1).toNat < x.A.length := by omega
    obtain ⟨g, eg, hc⟩ := RefG.shAt h hx hi
    rw [decide_eq_true ⟨h1, h2⟩, sh_getD hi] at hR
    subst e7
    refine ⟨_, _, eg, by omega, by omega, _, _, _, hc 2 (by omega), ?_⟩
    have e : decide ((((x.A[(id - 1).toNat].left.length : Nat) : Int)) = 0) = decide (x.A[(id - 1).toNat].left = []) := by
      rw [decide_eq_decide, ← List.length_eq_zero_iff]; omega
    rw [e]
    simpa using hR
  · rw [decide_eq_false (by omega)] at hR; exact hR
  · rw [decide_eq_false (by omega)] at hR; exact hR
/-- Open -/
theorem s32 (h : Own w0 Im w (x.L ++ Fr)) (hx : RefOk x) (hA : x.A.length < 1099511627776) (hR : R (.returned (.int .i64 (openAt x.sh x.A.length : Nat))) w) : Calls Try.prog 32 #[.pointer (some ⟨x.rb, 0, none⟩)] w R := by
  apply vc32
  unfold Vc32
  have hol : ∀ j, openAt x.sh j ≤ j := fun j => by
    unfold openAt
    have := List.length_filter_le (fun s : Int × List Int => !decide (s.2 = [])) (x.sh.take j)
    rw [List.length_take] at this
    omega
  refine ⟨fun m v2 v3 w' => w' = w ∧ ∃ j : Nat, m = x.A.length - j ∧ v3 = j ∧ j ≤ x.A.length ∧ v2 = (openAt x.sh j : Nat), ⟨_, rfl, 0, rfl, rfl, by omega, rfl⟩, ?_⟩
  rintro m v2 v3 w' ⟨rfl, j, rfl, rfl, hj, rfl⟩
  refine ⟨_, _, rfl, _, _, _, h.cell 0 rfl _, fun hlt => ?_, fun hge => ?_⟩
  · have hj' : j < x.A.length := by omega
    have := hol j
    obtain ⟨g, eg, hc⟩ := RefG.shAt h hx hj'
    have e : openAt x.sh (j + 1) = openAt x.sh j + if x.A[j].left = [] then 0 else 1 := by
      unfold openAt
      rw [List.take_succ_eq_append_getElem (by rw [Rsh_len]; exact hj'), List.filter_append, List.length_append, sh_at hj']
      by_cases hz : x.A[j].left = [] <;> simp [hz]
    refine ⟨_, _, _, h.cell 0 rfl _, _, _, eg, by omega, hlt, _, _, _, hc 2 (by omega), fun hpos r13 e13 r14 e14 => ?_, fun hz r16 e16 => ?_⟩
    · rw [wrap_id (by omega) (by omega)] at e13 e14
      have hz : x.A[j].left ≠ [] := fun hz => by rw [hz] at hpos; exact absurd hpos (by decide)
      rw [if_neg hz] at e
      exact ⟨_, by omega, rfl, j + 1, rfl, by omega, by omega, by rw [e, e13]; omega⟩
    · rw [wrap_id (by omega) (by omega)] at e16
      have hz : x.A[j].left = [] := List.length_eq_zero_iff.1 (by omega)
      rw [if_pos hz] at e
      exact ⟨_, by omega, rfl, j + 1, rfl, by omega, by omega, by rw [e]; rfl⟩
  · have : j = x.A.length := by omega
    rw [this]; exact hR
/-- Pending -/
theorem s34 {i : Int} (h : Own w0 Im w (x.L ++ Fr)) (hx : RefOk x) (hA : x.A.length < 1099511627776)
    (hR : ∀ w' v, Own w0 Im w' (vecL 3 v ++ (x.L ++ Fr)) → VecE intC 1 v (pendAt x.sh i x.A.length) → R (.returned (.slice (vecA v) (pendAt x.sh i x.A.length).length (vecC v))) w') : Calls Try.prog 34 #[.pointer (some ⟨x.rb, 0, none⟩), .int .i64 i] w R := by
  apply vc34
  unfold Vc34
  refine ⟨fun m a l c v4 w' => ∃ (j : Nat) (v : VecB), m = x.A.length - j ∧ v4 = j ∧ j ≤ x.A.length ∧ a = vecA v ∧ l = (pendAt x.sh i j).length ∧ c = vecC v ∧ Own w0 Im w' (vecL 3 v ++ (x.L ++ Fr)) ∧ VecE intC 1 v (pendAt x.sh i j),
    ⟨_, 0, none, rfl, rfl, by omega, rfl, rfl, rfl, h, VecE.nil⟩, ?_⟩
  rintro m a l c v4 w' ⟨j, v, rfl, rfl, hj, rfl, rfl, rfl, h', hv⟩
  have hs := h'.sub (List.sublist_append_right (vecL 3 v) (x.L ++ Fr))
  refine ⟨_, _, rfl, _, _, _, hs.cell 0 rfl _, fun hlt => ?_, fun hge => ?_⟩
  · have hj' : j < x.A.length := by omega
    obtain ⟨g, eg, hc⟩ := RefG.shAt hs hx hj'
    have hll := okTs_len (hx.left _ (List.getElem_mem hj'))
    have := hx.hi
    have hw : waitR x.sh i j = decide (i ∈ x.A[j].left) := by unfold waitR; rw [sh_getD hj']
    refine ⟨_, _, _, hs.cell 0 rfl _, _, _, eg, by omega, hlt, _, _, _, hc 2 (by omega), ?_⟩
    refine s42 (fun q hq => RefG.leftAt hs hx hj' hq) (by omega) ⟨_, rfl, fun hy => ?_, fun hn r27 e27 => ?_⟩
    · rw [← hw] at hy
      have hid : (rsC x.A[j])[0]? = some (.int .i64 x.A[j].id) := rfl
      refine ⟨_, _, _, hs.cell 0 rfl _, _, _, eg, by omega, hlt, _, hc 0 (by omega), fun b21 w22 e21 e22 => ?_⟩
      have h22 := h'.alloc' e21 e22
      have hpl := pendAt_len x.sh i j
      obtain ⟨v', w23, hr, h23, hv'⟩ := vecE_append (n := 1) (P := Try.prog) (t := 23) (ty := 23) (e := 3) (bytes := 8) (z := .int .i64 0) Try.underlying23 Try.type3 rfl rfl rfl rfl intC_len intC_one (h22.perm (perm_l [_] (vecL 3 v) _)) hv (a := some ⟨b21, 0, none⟩) (c := 1) (ys := [x.A[j].id])
        (fun _ => ⟨_, rfl, h22.cellsAt 0 rfl (fun q u hq => by rw [Nat.zero_add, List.getElem?_toArray]; exact (show (intC x.A[j].id)[q]? = some u from by simpa using hq))⟩) (by simp only [List.length_singleton]; omega) (by simp only [List.length_singleton, maxLen]; omega)
      refine ⟨_, _, _, w23, hr, fun r25 e25 => ?_⟩
      rw [wrap_id (by omega) (by omega)] at e25
      rw [hx.ids j hj', ← pendAt_yes hy] at hv'
      exact ⟨_, by omega, j + 1, v', rfl, by omega, by omega, rfl, by rw [pendAt_yes hy]; simp, rfl, h23.sub (List.Sublist.append_left (List.sublist_append_right _ _) _), hv'⟩
    · rw [← hw] at hn
      rw [wrap_id (by omega) (by omega)] at e27
      exact ⟨_, by omega, j + 1, v, rfl, by omega, by omega, rfl, by rw [pendAt_no hn], rfl, h', by rw [pendAt_no hn]; exact hv⟩
  · have hj' : j = x.A.length := by omega
    subst hj'
    exact hR w' v h' hv
end
end Go.Proofs.Ytdhdbdpemejpjaa
