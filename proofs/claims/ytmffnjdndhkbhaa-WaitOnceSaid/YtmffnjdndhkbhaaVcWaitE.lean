/- A part of the proof: lemmas. -/
import Derived.Test.YtmffnjdndhkbhaaVcWaitD
namespace Go.Proofs.Ytmffnjdndhkbhaa
open Go Go.Vc
set_option maxRecDepth 100000
set_option linter.unusedVariables false

def sleepE (K : List Int) (tid : Int) (on : List Chan) : Int :=
  if tid < 1 ∨ on = [] ∨ 16 < on.length then 1 else if ¬ on.Nodup then 1 else if tid ∈ K then 101 else if 64 ≤ K.length then 2 else 0
def sleepS (S : Chan → List Int) (tid : Int) (on : List Chan) : Chan → List Int := fun c => if c ∈ on then S c ++ [tid] else S c
def sleepO (O : Int → List Chan) (tid : Int) (on : List Chan) : Int → List Chan := fun t => if t = tid then on else O t
section
variable {w0 w : World} {Im : Mem} {Fr L : List (Nat × Obj)} {q : QueueG} {R : Ending → World → Prop}
/-- Sleep -/
theorem s7 {tid : Int} {a : Option Addr} {k : Nat} {on : List Chan} (h : Own w0 Im w (q.L ++ Fr)) (hq : QOk q) (hr : CReads w0 Im a on Fr) (hl : on.length ≤ 4611686018427387904) (hk : on.length ≤ k) (htid : tid ≤ 9223372036854775807)
    (hbad : sleepE q.K tid on ≠ 0 → ∀ w', Own w0 Im w' (q.L ++ Fr) → R (.returned (.int .i64 (sleepE q.K tid on))) w')
    (hok : sleepE q.K tid on = 0 → ∀ w' q', Own w0 Im w' (q'.L ++ Fr) → QOk q' → QTurn q q' (sleepS q.S tid on) (sleepO q.O tid on) (tid :: q.K) → R (.returned (.int .i64 0)) w') :
    Calls Try.prog 7 #[.pointer (some ⟨q.qb, 0, none⟩), .int .i64 tid, .slice a on.length k] w R := by
  apply vc7
  unfold Vc7
  have hb1 : (tid < 1 ∨ on = [] ∨ 16 < on.length) → ∀ w', Own w0 Im w' (q.L ++ Fr) → R (.returned (.int .i64 1)) w' := fun hc w' h' => by
    have e : sleepE q.K tid on = 1 := by unfold sleepE; rw [if_pos hc]
    have := hbad (by rw [e]; decide) w' h'
    rw [e] at this; exact this
  refine s17 h ⟨_, rfl, fun _ => ⟨fun e => hb1 (.inl e) _ h, fun h1 => ⟨fun e => hb1 (.inr (.inl (List.length_eq_zero_iff.1 (by omega)))) _ h, fun h2 => ⟨fun e => hb1 (.inr (.inr (by omega))) _ h, fun h3 => ?_⟩⟩⟩, fun e => (by cases e)⟩
  have hne : on ≠ [] := fun e => by rw [e] at h2; exact h2 rfl
  have hnb : ¬ (tid < 1 ∨ on = [] ∨ 16 < on.length) := fun hc => hc.elim h1 (fun hc => hc.elim hne (fun hc => h3 (by omega)))
  refine ⟨fun w' => on.Nodup ∧ Own w0 Im w' (q.L ++ Fr), ?_, ?_⟩
  · rintro w7 ⟨hnd, h7⟩
    have e0 : sleepE q.K tid on = if tid ∈ q.K then 101 else if 64 ≤ q.K.length then 2 else 0 := by
      unfold sleepE; rw [if_neg hnb, if_neg (not_not_intro hnd)]
    refine ⟨_, _, rfl, _, h7.cell 0 rfl _, _, _, _, _, look_o h7 (by simp [QueueG.L]) hq.w tid true, fun e => ?_, fun e => ?_⟩
    · have e := of_decide_eq_true e
      rw [if_pos e] at e0
      have := hbad (by rw [e0]; decide) w7 h7
      rw [e0] at this; exact this
    · have hnk := of_decide_eq_false e
      rw [if_neg hnk] at e0
      refine ⟨_, h7.cell 0 rfl _, _, Vc.run_len_map Try.underlying50 h7 (b := q.ob) (M := q.OM) (clk := q.oclk) (enc := Vc.encI .i64) (by simp [QueueG.L]), ?_⟩
      have hKl : q.K.length = q.OE.length := by unfold QueueG.K; rw [List.length_map]
      rw [hq.w.o.len, ← hKl]
      refine ⟨fun e => ?_, fun e => ?_⟩
      · rw [if_pos (by omega)] at e0
        have := hbad (by rw [e0]; decide) w7 h7
        rw [e0] at this; exact this
      · rw [if_neg (by omega)] at e0
        have hd := h7.drew
        refine ⟨_, hd.cell 0 rfl _, ?_⟩
        refine s19r (hd.perm (L' := q.L ++ Fr) (List.Perm.refl _)) (hr.more q.L) hne (by omega) fun w17 x h17 hx => ⟨_, _, _, rfl, ?_⟩
        have h17q := h17.sub (List.sublist_append_right (vecL 29 x) (q.L ++ Fr))
        refine ⟨h17q.cell 0 rfl _, ?_⟩
        have h17m : Own w0 Im w17 ((q.ob, mapObj (Vc.encI .i64) q.OM q.oclk) :: (q.qb, .cells q.cells 52 (0, 0)) :: (q.sb, mapObj chanE q.SM q.sclk) :: (vecL 29 x ++ (avBlocks 3 q.SE ++ (avBlocks 29 q.OE ++ Fr)))) := h17.perm (by_count fun a => by
          simp only [QueueG.L, List.count_append, List.cons_append, List.count_cons]
          omega)
        have hup := run_mapUpdate (P := Try.prog) (t := 50) (enc := Vc.encI .i64) Try.underlying50 keyInt hq.w.o.mnd (h17m.get 0 rfl) tid (.slice (vecA x) on.length (vecC x))
        refine ⟨_, hup, ?_⟩
        have h18 := h17m.setObj 0 rfl (o' := mapObj (Vc.encI .i64) (aput q.OM q.oclk tid (.slice (vecA x) on.length (vecC x))).1 (aput q.OM q.oclk tid (.slice (vecA x) on.length (vecC x))).2)
        have hdel : avDel q.OE tid = q.OE := avDel_none (avGet_none.2 hnk)
        have hput := hq.w.o.put tid hx
        rw [hdel] at hput
        obtain ⟨qa, hqa⟩ : ∃ qa : QueueG, qa = { q with OM := (aput q.OM q.oclk tid (.slice (vecA x) on.length (vecC x))).1, oclk := (aput q.OM q.oclk tid (.slice (vecA x) on.length (vecC x))).2, OE := ⟨tid, x, on⟩ :: q.OE } := ⟨_, rfl⟩
        have hOa : qa.O = sleepO q.O tid on := by
          funext t
          rw [hqa]
          have := avL_put (A := q.OE) (k := tid) (k' := t) (v := x) (l := on)
          rw [hdel] at this
          exact this
        have hKa : qa.K = tid :: q.K := by rw [hqa]; rfl
        have hSa : qa.S = q.S := by rw [hqa]; rfl
        have hWa : QW qa := ⟨by rw [hqa]; exact hq.w.s, by rw [hqa]; exact hput, by rw [hqa]; simp only [List.length_cons]; omega, fun t => by
          rw [hOa]; unfold sleepO
          by_cases ht : t = tid
          · rw [if_pos ht]; omega
          · rw [if_neg ht]; exact hq.w.on t, fun c => by rw [hSa]; exact hq.w.sl c⟩
        have h18a : Own w0 Im _ (qa.L ++ Fr) := h18.perm (by_count fun a => by
          rw [hqa]
          simp only [QueueG.L, QueueG.cells, avBlocks, List.flatMap_cons, List.set_cons_zero, List.count_append, List.cons_append, List.count_cons]
          omega)
        have hqb : qa.qb = q.qb := by rw [hqa]
        refine ⟨fun m v w' => ∃ (j : Nat) (q1 : QueueG), m = on.length - j ∧ v = j ∧ j ≤ on.length ∧ Own w0 Im w' (q1.L ++ Fr) ∧ QW q1 ∧ q1.qb = q.qb ∧ q1.S = sleepS q.S tid (on.take j) ∧ q1.OE = qa.OE, ⟨_, 0, qa, rfl, rfl, by omega, h18a, hWa, hqb, by rw [hSa]; funext c; simp [sleepS], rfl⟩, ?_⟩
        rintro m v w21 ⟨j, q1, rfl, rfl, hj, h21, hq1, eqb, hS, hO⟩
        refine ⟨fun hlt => ?_, fun hge => ?_⟩
        · have hj' : j < on.length := by omega
          obtain ⟨b, o, ea, hc⟩ := hr w21 q1.L h21 j hj'
          refine ⟨_, _, ea, by omega, hlt, _, _, _, hc, fun b27 w28 e27 e28 => ?_⟩
          have h28 := h21.alloc' e27 e28
          refine ⟨h28.putOk 0 rfl (by simp), fun w29 e29 => ?_⟩
          have h29 : Own w0 Im w29 ((b27, .cells (chanC on[j]).toArray 29 (0, 0)) :: (q1.L ++ Fr)) := by rw [e29]; exact h28.put (chanC on[j]) 0 0 rfl 0
          have h29d := h29.drew
          refine ⟨_, by rw [← eqb]; exact h29d.cell 1 rfl _, _, _, _, chanAt h29d, fun b34 w35 e34 e35 => ?_⟩
          have h35 := h29d.alloc' e34 e35
          refine ⟨chanAt (h35.tail rfl), by rw [← eqb]; exact h35.cell 2 rfl _, ?_⟩
          have hnt : on[j] ∉ on.take j := fun hm => by
            obtain ⟨i, hi, e⟩ := List.mem_iff_getElem.1 hm
            rw [List.length_take] at hi
            rw [List.getElem_take] at e
            exact absurd ((List.getElem_inj hnd).1 e) (by omega)
          have hSc : q1.S on[j] = q.S on[j] := by rw [hS]; unfold sleepS; rw [if_neg hnt]
          obtain ⟨xx, s, w1, r1, y, w2, r2, w3, r3, q2, h3', hq2, eqb2, hS2, hO2⟩ := push (q := q1) (Fr := (b34, Obj.cells #[.int .i64 tid] 3 (0, 0)) :: (b27, .cells (chanC on[j]).toArray 29 (0, 0)) :: Fr) (h35.perm (by_count fun a => by
            simp only [List.count_append, List.count_cons]; omega)) hq1 on[j] (tid := tid) (b := b34) (by simp) (by rw [hSc]; exact hq.sleepers _)
          refine ⟨_, _, _, _, _, r1, _, _, _, _, r2, _, r3, fun r42 e42 => ?_⟩
          rw [wrap_id (by omega) (by omega)] at e42
          refine ⟨_, by omega, j + 1, q2, rfl, by omega, by omega, h3'.sub (List.Sublist.append_left ((List.sublist_cons_self _ _).trans (List.sublist_cons_self _ _)) _), hq2, eqb2.trans eqb, ?_, hO2.trans hO⟩
          rw [hS2, hS]
          funext c
          unfold pushS sleepS
          have hmem : c ∈ on.take (j + 1) ↔ c ∈ on.take j ∨ c = on[j] := by rw [List.take_succ_eq_append_getElem hj', List.mem_append, List.mem_singleton]
          by_cases hc2 : c = on[j]
          · rw [if_pos hc2, if_pos (hmem.2 (.inr hc2)), if_neg hnt, hc2]
          · rw [if_neg hc2]
            by_cases hm : c ∈ on.take j
            · rw [if_pos hm, if_pos (hmem.2 (.inl hm))]
            · rw [if_neg hm, if_neg (fun h => (hmem.1 h).elim hm hc2)]
        · have hj' : j = on.length := by omega
          rw [hj', List.take_length] at hS
          have hO1 : q1.O = sleepO q.O tid on := by rw [← hOa]; unfold QueueG.O; rw [hO]
          have hK1 : q1.K = tid :: q.K := by rw [← hKa]; unfold QueueG.K; rw [hO]
          have hOt : q.O tid = [] := Classical.not_not.1 fun hc => hnk ((hq.some tid).2 hc)
          have hSt : ∀ c, tid ∉ q.S c := fun c hc => by have := (hq.both tid c).1 hc; rw [hOt] at this; cases this
          refine hok e0 w21 q1 h21 ⟨hq1, fun t c => ?_, fun c => ?_, fun t => ?_, fun t => ?_, fun t ht => ?_⟩ ⟨eqb, hS, hO1, by rw [hK1]⟩
          · rw [hS, hO1]
            unfold sleepS sleepO
            by_cases ht : t = tid
            · rw [if_pos ht, ht]
              by_cases hc : c ∈ on
              · rw [if_pos hc]; simp [hc]
              · rw [if_neg hc]; simp [hc, hSt c]
            · rw [if_neg ht, ← hq.both t c]
              by_cases hc : c ∈ on
              · rw [if_pos hc]; simp [ht]
              · rw [if_neg hc]
          · rw [hS]
            unfold sleepS
            by_cases hc : c ∈ on
            · rw [if_pos hc, List.nodup_append]
              exact ⟨hq.one c, by simp, fun a ha b hb => by simp at hb; subst hb; exact fun e => hSt c (e ▸ ha)⟩
            · rw [if_neg hc]; exact hq.one c
          · rw [hO1, hK1]
            unfold sleepO
            by_cases ht : t = tid
            · rw [if_pos ht]; simp [ht, hne]
            · rw [if_neg ht, ← hq.some t]; simp [ht]
          · rw [hO1]
            unfold sleepO
            by_cases ht : t = tid
            · rw [if_pos ht]; exact hnd
            · rw [if_neg ht]; exact hq.ond t
          · rw [hK1] at ht
            rcases List.mem_cons.1 ht with rfl | ht
            · exact ⟨by omega, htid⟩
            · exact hq.pos t ht
  · refine ⟨fun m v w' => ∃ j : Nat, m = on.length - j ∧ v = j ∧ j ≤ on.length ∧ (on.take j).Nodup ∧ Own w0 Im w' (q.L ++ Fr), ⟨_, 0, rfl, rfl, by omega, by simp, h⟩, ?_⟩
    rintro m v w46 ⟨j, rfl, rfl, hj, hnd, h46⟩
    refine ⟨fun hlt => ?_, fun hge => ?_⟩
    · have hj' : j < on.length := by omega
      obtain ⟨b, o, ea, hc⟩ := hr w46 q.L h46 j hj'
      refine ⟨_, _, ea, by omega, hlt, _, _, _, hc, fun b52 w53 e52 e53 => ?_⟩
      have h53 := h46.alloc' e52 e53
      refine ⟨h53.putOk 0 rfl (by simp), fun w54 e54 => ?_⟩
      have h54 : Own w0 Im w54 ((b52, .cells (chanC on[j]).toArray 29 (0, 0)) :: (q.L ++ Fr)) := by rw [e54]; exact h53.put (chanC on[j]) 0 0 rfl 0
      have hd := h54.drew
      refine ⟨by omega, by omega, fun a55 e55 => ⟨_, _, _, chanAt hd, ?_⟩⟩
      rw [e55, ← ea]
      refine s18 (c := on[j]) (ks := on.take j) (hd.perm (L' := ((b52, .cells (chanC on[j]).toArray 29 (0, 0)) :: q.L) ++ Fr) (List.Perm.refl _)) ((hr.take j).more _) (by rw [List.length_take]; omega) (by rw [List.length_take]; omega) fun w60 h60 => ⟨_, rfl, fun e => ?_, fun e r61 e61 => ?_⟩
      · have e := of_decide_eq_true e
        have hnn : ¬ on.Nodup := fun hn => by
          obtain ⟨i, hi, e2⟩ := List.mem_iff_getElem.1 e
          rw [List.length_take] at hi
          rw [List.getElem_take] at e2
          exact absurd ((List.getElem_inj hn).1 e2) (by omega)
        have e3 : sleepE q.K tid on = 1 := by unfold sleepE; rw [if_neg hnb, if_pos hnn]
        have := hbad (by rw [e3]; decide) w60 (h60.tail rfl)
        rw [e3] at this; exact this
      · have e := of_decide_eq_false e
        rw [wrap_id (by omega) (by omega)] at e61
        refine ⟨_, by omega, j + 1, rfl, by omega, by omega, ?_, h60.tail rfl⟩
        rw [List.take_succ_eq_append_getElem hj', List.nodup_append]
        exact ⟨hnd, by simp, fun a ha b hb => by simp at hb; subst hb; exact fun e2 => e (e2 ▸ ha)⟩
    · have hj' : j = on.length := by omega
      rw [hj', List.take_length] at hnd
      exact ⟨hnd, h46⟩
end
end Go.Proofs.Ytmffnjdndhkbhaa
