/- A part of the proof: lemmas. -/
import Derived.Test.YtdhdbdpemejpjaaVcTlbJ
namespace Go.Proofs.Ytdhdbdpemejpjaa
open Go Go.Vc
set_option maxRecDepth 100000
set_option linter.unusedVariables false

theorem rep_flat (n : Nat) (x : RH) : (List.replicate n x).flatMap rhC = List.replicate n (rhV x) := by
  induction n with
  | zero => rfl
  | succ n ih => rw [List.replicate_succ, List.flatMap_cons, ih]; rfl
theorem made_rh (n : Nat) : madeCells (Value.slice none 0 0).cells (n * 1) = ((List.replicate n (⟨none, []⟩ : RH)).flatMap rhC).toArray := by
  rw [rep_flat]
  apply Array.ext
  · simp [madeCells]
  · intro i h1 h2
    simp [madeCells, Value.cells, Nat.mod_one, rhV, vecA, vecC]
theorem cellsAt2 {w : World} {g o : Nat} {u v : Value} (h0 : w.cell? ⟨g, o, none⟩ = some u) (h1 : w.cell? ⟨g, o + 1, none⟩ = some v) : CellsAt w ⟨g, o, none⟩ [u, v] := fun j y hj => by
  rw [add_none]
  match j, hj with
  | 0, hj => rw [Nat.add_zero, h0]; exact hj
  | 1, hj => rw [h1]; exact hj
  | j + 2, hj => simp at hj
theorem cellsAt3 {w : World} {g o : Nat} {u v z : Value} (h0 : w.cell? ⟨g, o, none⟩ = some u) (h1 : w.cell? ⟨g, o + 1, none⟩ = some v) (h2 : w.cell? ⟨g, o + 2, none⟩ = some z) : CellsAt w ⟨g, o, none⟩ [u, v, z] := fun j y hj => by
  rw [add_none]
  match j, hj with
  | 0, hj => rw [Nat.add_zero, h0]; exact hj
  | 1, hj => rw [h1]; exact hj
  | 2, hj => rw [h2]; exact hj
  | j + 3, hj => simp at hj
theorem take_ne {E : List (Key × Int)} {k : Key} {j : Nat} (hj : j < E.length) (h : ∀ y ∈ E.take j, y.1 ≠ k) (h2 : E[j].1 ≠ k) : ∀ y ∈ E.take (j + 1), y.1 ≠ k := by
  intro y hy
  rw [List.take_succ_eq_append_getElem hj, List.mem_append] at hy
  rcases hy with hy | hy
  · exact h y hy
  · simp at hy; subst hy; exact h2
theorem look_yes {E : List (Key × Int)} {k : Key} {j : Nat} (hj : j < E.length) (h : ∀ y ∈ E.take j, y.1 ≠ k) (h2 : E[j].1 = k) : lookE E k = some E[j].2 := by
  have e : E = E.take j ++ E[j] :: E.drop (j + 1) := by
    conv => lhs; rw [← List.take_append_drop j E, List.drop_eq_getElem_cons hj]
  have h3 : (E.take j ++ E[j] :: E.drop (j + 1)).find? (fun e => decide (e.1 = k)) = some E[j] := by
    rw [List.find?_append, List.find?_eq_none.2 (fun y hy => by simpa using h y hy), Option.none_or, List.find?_cons_of_pos (by simpa using h2)]
  unfold lookE
  rw [← e] at h3
  rw [h3]; rfl
theorem look_no {E : List (Key × Int)} {k : Key} (h : ∀ y ∈ E, y.1 ≠ k) : lookE E k = none := lookE_none.2 fun hm => by
  obtain ⟨y, hy, e⟩ := List.mem_map.1 hm
  exact h y hy e

section
variable {w0 w : World} {Im : Mem} {Fr L : List (Nat × Obj)} {x : RefG} {R : Ending → World → Prop}

/-- New -/
theorem s17 {harts size : Int} (h : Own w0 Im w Fr)
    (hno : ¬ (1 ≤ harts ∧ harts ≤ 8 ∧ 1 ≤ size ∧ size ≤ 64) → R (.returned (.tuple #[.pointer none, .int .i64 1])) w)
    (hR : ∀ w' x, 1 ≤ harts → harts ≤ 8 → 1 ≤ size → size ≤ 64 → Own w0 Im w' (x.L ++ Fr) → RefOk x → x.size = size → x.Es = List.replicate harts.toNat [] → x.sh = [] → R (.returned (.tuple #[.pointer (some ⟨x.rb, 0, none⟩), .int .i64 0])) w') :
    Calls Try.prog 17 #[.int .i64 harts, .int .i64 size] w R := by
  apply vc17
  unfold Vc17
  refine ⟨fun e => hno (by omega), fun h1 => ⟨fun e => hno (by omega), fun h2 => ⟨fun e => hno (by omega), fun h3 => ⟨fun e => hno (by omega), fun h4 => ?_⟩⟩⟩⟩
  obtain ⟨w3, hm3, o3⟩ := own_make (t := 68) (e := 73) (bytes := 24) (size := 1) (z := .slice none 0 0) Try.underlying68 Try.type73 rfl rfl rfl h (kl := .i64) (kc := .i64) (l := harts) (c := harts) (by omega) (Int.le_refl _) (by omega) (by omega)
  rw [made_rh] at o3
  generalize w.heap.size = g at hm3 o3
  refine ⟨_, _, _, w3, hm3, fun b5 w6 e5 e6 => ?_⟩
  have o6 := o3.alloc' e5 e6
  generalize hn : harts.toNat = n at *
  have hl : ((List.replicate n (⟨none, []⟩ : RH)).flatMap rhC).length = n := by rw [rep_flat]; simp
  have hH : ∀ y ∈ List.replicate n (⟨none, []⟩ : RH), y = ⟨none, []⟩ := fun y hy => List.eq_of_mem_replicate hy
  refine hR w6 ⟨b5, size, some (g, n, (List.replicate n (⟨none, []⟩ : RH)).flatMap rhC), List.replicate n ⟨none, []⟩, none, []⟩ (by omega) (by omega) (by omega) (by omega) ?_ ?_ rfl (by simp [RefG.Es]) rfl
  · have e : (List.replicate n (⟨none, []⟩ : RH)).flatMap RH.L = [] := List.flatMap_eq_nil_iff.2 fun y hy => by rw [hH y hy]; rfl
    unfold RefG.L RefG.cells
    simp only [e, List.length_replicate]
    exact o6
  · refine ⟨⟨by simpa using hl, by simp [vecC], by show n ≤ maxLen; simp only [maxLen]; omega, by simpa using hl, ?_⟩, fun y hy => ?_, fun y hy => ?_, fun y hy => ?_, by show (List.replicate n _).length ≤ 8; simp; omega, by show 1 ≤ size; omega, by show size ≤ 64; omega, VecE.nil, fun y hy => (by cases hy), fun i hi => (by cases hi), fun y hy => (by cases hy)⟩
    · simp only [List.length_replicate, Nat.mul_one]
      rw [List.take_of_length_le (by omega)]
    · rw [hH y hy]; exact VecE.nil
    · rw [hH y hy]; exact List.nodup_nil
    · rw [hH y hy]; show ((0 : Nat) : Int) ≤ size; omega
/-- hart -/
theorem s41 {i : Int} (h : Own w0 Im w (x.L ++ Fr)) (hR : R (.returned (.bool (decide (0 ≤ i ∧ i < (x.H.length : Nat))))) w) : Calls Try.prog 41 #[.pointer (some ⟨x.rb, 0, none⟩), .int .i64 i] w R := by
  apply vc41
  unfold Vc41
  refine ⟨fun h0 => ⟨_, _, rfl, _, _, _, h.cell 0 rfl _, ?_⟩, fun h0 => ?_⟩
  · have e : decide (0 ≤ i ∧ i < ((x.H.length : Nat) : Int)) = decide (i < ((x.H.length : Nat) : Int)) := by simp [h0]
    rw [e] at hR; exact hR
  · rw [decide_eq_false (by omega)] at hR; exact hR
/-- has -/
theorem s42 {xs : List Int} {a : Option Addr} {c : Nat} (hr : ∀ j (hj : j < xs.length), ∃ b, a = some ⟨b, 0, none⟩ ∧ w.cell? ⟨b, 0 + j, none⟩ = some (.int .i64 xs[j])) (hl : xs.length ≤ 4611686018427387904) {h : Int} (hR : R (.returned (.bool (decide (h ∈ xs)))) w) :
    Calls Try.prog 42 #[.slice a xs.length c, .int .i64 h] w R := by
  apply vc42
  unfold Vc42
  refine ⟨fun m v w' => w' = w ∧ ∃ j : Nat, v = j ∧ m = xs.length - j ∧ j ≤ xs.length ∧ h ∉ xs.take j, ⟨_, rfl, 0, rfl, rfl, by omega, by simp⟩, ?_⟩
  rintro m v w' ⟨rfl, j, rfl, rfl, hj, hn⟩
  refine ⟨fun hlt => ?_, fun hge => ?_⟩
  · have hj' : j < xs.length := by omega
    obtain ⟨b, ea, hc⟩ := hr j hj'
    refine ⟨_, _, ea, by omega, hlt, _, hc, fun e => ?_, fun e r9 e9 => ?_⟩
    · rw [decide_eq_true (by rw [← e]; exact List.getElem_mem hj')] at hR; exact hR
    · rw [wrap_id (by omega) (by omega)] at e9
      refine ⟨_, by omega, rfl, j + 1, by omega, rfl, by omega, ?_⟩
      rw [List.take_succ_eq_append_getElem hj', List.mem_append]
      rintro (h1 | h1)
      · exact hn h1
      · simp at h1; exact e h1.symm
  · have : j = xs.length := by omega
    rw [this, List.take_length] at hn
    rw [decide_eq_false hn] at hR; exact hR
/-- Look -/
theorem s25 {i : Int} {k : Key} (h : Own w0 Im w (x.L ++ Fr)) (hx : RefOk x) (hR : ∀ w', Own w0 Im w' (x.L ++ Fr) → R (.returned (.tuple #[.int .u32 ((lookE (hartE x.Es i) k).getD 0), .bool (lookE (hartE x.Es i) k).isSome])) w') :
    Calls Try.prog 25 #[.pointer (some ⟨x.rb, 0, none⟩), .int .i64 i, .agg #[.int .i64 k.1, .int .i64 k.2]] w R := by
  apply vc25
  unfold Vc25
  intro b5 w6 e5 e6
  have h6 := h.alloc' e5 e6
  refine s41 (h6.tail rfl) ⟨_, rfl, fun hin => ?_, fun hout => ?_⟩
  · have hin := of_decide_eq_true hin
    have hil : i.toNat < x.H.length := by omega
    obtain ⟨hl2, he⟩ := hartE_at (Es := x.Es) hin.1 (by rw [REs_len]; exact hin.2)
    have hE : hartE x.Es i = x.H[i.toNat].E := by rw [he]; simp [RefG.Es]
    rw [hE] at hR
    have hroom := hx.room _ (List.getElem_mem hil)
    have := hx.shi
    refine ⟨fun m v w' => ∃ j : Nat, m = x.H[i.toNat].E.length - j ∧ v = j ∧ j ≤ x.H[i.toNat].E.length ∧ (∀ y ∈ x.H[i.toNat].E.take j, y.1 ≠ k) ∧ Own w0 Im w' ((b5, .cells (keyC k).toArray 31 (0, 0)) :: (x.L ++ Fr)), ⟨_, 0, rfl, rfl, by omega, by simp, h6⟩, ?_⟩
    rintro m v w12 ⟨j, rfl, rfl, hj, hne, h12⟩
    obtain ⟨g, eg, hc⟩ := RefG.hartAt (h12.tail rfl) hx hil
    refine ⟨_, _, rfl, _, _, _, h12.cell 1 rfl _, _, _, eg, hin.1, hin.2, _, _, _, hc, fun hlt => ?_, fun hge => ?_⟩
    · have hj' : j < x.H[i.toNat].E.length := by omega
      have hd := h12.drew
      obtain ⟨g2, eg2, hc2⟩ := RefG.hartAt (hd.tail rfl) hx hil
      obtain ⟨g3, eg3, hc3⟩ := RefG.keptAt (hd.tail rfl) hx hil hj'
      refine ⟨_, _, _, hd.cell 1 rfl _, _, _, eg2, hin.1, hin.2, _, _, _, hc2, _, _, eg3, by omega, hlt, _, _, cellsAt2 (hc3 0 (by omega)) (hc3 1 (by omega)), k.1, k.2, keyAt hd, decide (x.H[i.toNat].E[j].1 = k), fun w' => key_guard _ _ w', fun w' => key_eq _ _ w', fun e => ?_, fun e r37 e37 => ?_⟩
      · have e := of_decide_eq_true e
        refine ⟨_, _, _, hd.cell 1 rfl _, _, _, eg2, hin.1, hin.2, _, _, _, hc2, _, _, eg3, by omega, hlt, _, hc3 2 (by omega), ?_⟩
        have := hR _ (hd.tail rfl)
        rw [look_yes hj' hne e] at this
        exact this
      · have e := of_decide_eq_false e
        rw [wrap_id (by omega) (by omega)] at e37
        exact ⟨_, by omega, j + 1, rfl, by omega, by omega, take_ne hj' hne e, hd⟩
    · have hj' : j = x.H[i.toNat].E.length := by omega
      rw [hj', List.take_length] at hne
      have := hR _ (h12.tail rfl)
      rw [look_no hne] at this
      exact this
  · have hout := of_decide_eq_false hout
    have := hR _ (h6.tail rfl)
    rw [hartE_no (by rw [REs_len]; exact hout)] at this
    exact this
end
end Go.Proofs.Ytdhdbdpemejpjaa
