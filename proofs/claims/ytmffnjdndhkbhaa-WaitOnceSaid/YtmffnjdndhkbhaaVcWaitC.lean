/- A part of the proof: lemmas. -/
import Derived.Test.YtmffnjdndhkbhaaVcWaitB
namespace Go.Proofs.Ytmffnjdndhkbhaa
open Go Go.Vc
set_option maxRecDepth 100000
set_option linter.unusedVariables false

def cancelS (S : Chan → List Int) (tid : Int) : Chan → List Int := fun c => (S c).filter fun y => !decide (y = tid)
def cancelO (O : Int → List Chan) (tid : Int) : Int → List Chan := fun t => if t = tid then [] else O t
def cancelK (K : List Int) (tid : Int) : List Int := K.filter fun y => !decide (y = tid)
theorem filter_out {l : List Int} {t : Int} (h : t ∉ l) : l.filter (fun y => !decide (y = t)) = l := List.filter_eq_self.2 fun y hy => by
  have : y ≠ t := fun e => h (e ▸ hy)
  simp [this]
section
variable {w0 w : World} {Im : Mem} {Fr L : List (Nat × Obj)} {q : QueueG} {R : Ending → World → Prop}
theorem on_at (h : Own w0 Im w (q.L ++ Fr)) (hq : QW q) {t : Int} {j : Nat} (hj : j < (q.O t).length) : ∃ g, vecA (avV q.OE t) = some ⟨g, 0, none⟩ ∧ CellsAt w ⟨g, 0 + j * 3, none⟩ (chanC (q.O t)[j]) := by
  obtain ⟨g, e1, e2⟩ := vecE_at (e := 29) chanC_len h (fun p hp => by
    have : p ∈ avBlocks 29 q.OE := (avBlocks_open 29 hq.o.nd t).mem_iff.2 (List.mem_append_left _ hp)
    simp [QueueG.L, this]) (hq.o.vecAt t) hj
  exact ⟨g, e1, by rw [Nat.zero_add]; exact e2⟩
/-- Cancel -/
theorem s10 {tid : Int} (h : Own w0 Im w (q.L ++ Fr)) (hq : QOk q)
    (hR : ∀ w' q', Own w0 Im w' (q'.L ++ Fr) → QOk q' → QTurn q q' (cancelS q.S tid) (cancelO q.O tid) (cancelK q.K tid) → R (.returned (.bool (decide (tid ∈ q.K)))) w') :
    Calls Try.prog 10 #[.pointer (some ⟨q.qb, 0, none⟩), .int .i64 tid] w R := by
  apply vc10
  unfold Vc10
  have hon := hq.w.on tid
  refine s17 h ⟨_, rfl, fun _ => ?_, fun e => (by cases e)⟩
  refine ⟨_, _, rfl, _, h.cell 0 rfl _, _, _, _, _, look_o h (by simp [QueueG.L]) hq.w tid true, ?_⟩
  refine ⟨fun w' => ∃ q1 : QueueG, Own w0 Im w' (q1.L ++ Fr) ∧ QW q1 ∧ q1.qb = q.qb ∧ q1.S = cancelS q.S tid ∧ q1.OE = q.OE, ?_, ?_⟩
  · rintro w11 ⟨q1, h11, hq1, eqb, hS, hO⟩
    rw [← eqb]
    have h11m := h11.perm (L' := (q1.ob, mapObj (Vc.encI .i64) q1.OM q1.oclk) :: (q1.qb, .cells q1.cells 52 (0, 0)) :: (q1.sb, mapObj chanE q1.SM q1.sclk) :: ((avBlocks 3 q1.SE ++ avBlocks 29 q1.OE) ++ Fr)) (by_count fun a => by
      simp only [QueueG.L, List.count_append, List.cons_append, List.count_cons]; omega)
    have hdl := run_delete (P := Try.prog) (t := 50) (u := 3) (ty := 0) (enc := Vc.encI .i64) Try.underlying50 keyInt hq1.o.mnd (h11m.get 0 rfl) tid
    refine ⟨_, h11.cell 0 rfl _, _, hdl, ?_⟩
    have h3 := h11m.setObj 0 rfl (o' := mapObj (Vc.encI .i64) (adel q1.OM tid) q1.oclk)
    have hp := avBlocks_open 29 hq1.o.nd tid
    obtain ⟨q', hq'⟩ : ∃ q' : QueueG, q' = { q1 with OM := adel q1.OM tid, OE := avDel q1.OE tid } := ⟨_, rfl⟩
    have eS : q'.S = cancelS q.S tid := by rw [← hS, hq']; rfl
    have eO : q'.O = cancelO q.O tid := by
      funext t
      rw [hq']
      show avL (avDel q1.OE tid) t = _
      rw [avL_del, hO]; rfl
    have eK : q'.K = cancelK q.K tid := by
      rw [hq']
      show (avDel q1.OE tid).map (·.k) = _
      rw [avDel_keys, hO]; rfl
    have hfl : (avDel q1.OE tid).length ≤ 64 := by
      have h1 : (avDel q1.OE tid).length ≤ q1.OE.length := List.length_filter_le _ _
      have := hq1.few
      omega
    refine hR _ q' ?_ ⟨⟨by rw [hq']; exact hq1.s, by rw [hq']; exact hq1.o.del tid, by rw [hq']; exact hfl, fun t => ?_, fun c => ?_⟩, fun t c => ?_, fun c => ?_, fun t => ?_, fun t => ?_, fun t ht => ?_⟩ ⟨by rw [hq', ← eqb], eS, eO, by rw [eK]⟩
    · refine (h3.perm (L' := vecL 29 (avV q1.OE tid) ++ (q'.L ++ Fr)) (by_count fun a => ?_)).sub (List.sublist_append_right _ _)
      have := count_of hp a
      simp only [List.count_append] at this
      rw [hq']
      simp only [QueueG.L, QueueG.cells, List.set_cons_zero, List.count_append, List.cons_append, List.count_cons]
      omega
    · rw [eO]
      unfold cancelO
      by_cases ht : t = tid
      · rw [if_pos ht]; exact Nat.zero_le _
      · rw [if_neg ht]; exact hq.w.on t
    · rw [eS]
      exact Nat.le_trans (List.length_filter_le _ _) (hq.w.sl c)
    · rw [eS, eO]
      unfold cancelS cancelO
      rw [List.mem_filter]
      by_cases ht : t = tid
      · rw [if_pos ht]; simp [ht]
      · rw [if_neg ht, ← hq.both t c]; simp [ht]
    · rw [eS]
      exact (hq.one c).sublist List.filter_sublist
    · rw [eO, eK]
      unfold cancelK cancelO
      rw [List.mem_filter]
      by_cases ht : t = tid
      · rw [if_pos ht]; simp [ht]
      · rw [if_neg ht, ← hq.some t]; simp [ht]
    · rw [eO]
      unfold cancelO
      by_cases ht : t = tid
      · rw [if_pos ht]; exact List.nodup_nil
      · rw [if_neg ht]; exact hq.ond t
    · rw [eK] at ht
      exact hq.pos t (List.mem_filter.1 ht).1
  · refine ⟨fun m v w' => ∃ (j : Nat) (q1 : QueueG), m = (q.O tid).length - j ∧ v = j ∧ j ≤ (q.O tid).length ∧ Own w0 Im w' (q1.L ++ Fr) ∧ QW q1 ∧ q1.qb = q.qb ∧ (q1.S = fun c => if c ∈ (q.O tid).take j then (q.S c).filter (fun y => !decide (y = tid)) else q.S c) ∧ q1.OE = q.OE,
      ⟨_, 0, q, rfl, rfl, by omega, h, hq.w, rfl, by funext c; simp, rfl⟩, ?_⟩
    rintro m v w16 ⟨j, q1, rfl, rfl, hj, h16, hq1, eqb, hS, hO⟩
    refine ⟨fun hlt => ?_, fun hge => ?_⟩
    · have hj' : j < (q.O tid).length := by omega
      have hOO : q1.O tid = q.O tid := by unfold QueueG.O; rw [hO]
      have hj1 : j < (q1.O tid).length := by rw [hOO]; exact hj'
      obtain ⟨g, eg, hc⟩ := on_at h16 hq1 hj1
      rw [hO] at eg
      have hval : (q1.O tid)[j] = (q.O tid)[j] := by simp only [hOO]
      rw [hval] at hc
      refine ⟨_, _, eg, by omega, hlt, _, _, _, hc, fun b22 w23 e22 e23 => ?_⟩
      have h23 := h16.alloc' e22 e23
      refine ⟨h23.putOk 0 rfl (by simp), fun w24 e24 => ?_⟩
      have h24 : Own w0 Im w24 ((b22, .cells (chanC (q.O tid)[j]).toArray 29 (0, 0)) :: (q1.L ++ Fr)) := by rw [e24]; exact h23.put (chanC (q.O tid)[j]) 0 0 rfl 0
      refine ⟨_, _, _, chanAt h24, ?_⟩
      rw [← eqb]
      refine s21 (c := (q.O tid)[j]) (h24.tail rfl) hq1 fun w28 q2 h28 hq2 eqb2 hS2 hO2 => ⟨rfl, fun r30 e30 => ?_⟩
      rw [wrap_id (by omega) (by omega)] at e30
      refine ⟨_, by omega, j + 1, q2, rfl, by omega, by omega, h28, hq2, eqb2, ?_, hO2.trans hO⟩
      have hq1S : ∀ c, q1.S c = if c ∈ (q.O tid).take j then (q.S c).filter (fun y => !decide (y = tid)) else q.S c := fun c => by rw [hS]
      have hmem : ∀ c, c ∈ (q.O tid).take (j + 1) ↔ c ∈ (q.O tid).take j ∨ c = (q.O tid)[j] := fun c => by
        rw [List.take_succ_eq_append_getElem hj', List.mem_append, List.mem_singleton]
      rw [hS2]
      funext c
      unfold leaveS
      by_cases hc2 : c = (q.O tid)[j]
      · rw [if_pos hc2, if_pos ((hmem c).2 (.inr hc2)), hq1S, ← hc2]
        by_cases hm : c ∈ (q.O tid).take j
        · rw [if_pos hm, List.filter_filter]
          congr 1
          funext y
          simp
        · rw [if_neg hm]
      · rw [if_neg hc2, hq1S]
        by_cases hm : c ∈ (q.O tid).take j
        · rw [if_pos hm, if_pos ((hmem c).2 (.inl hm))]
        · rw [if_neg hm, if_neg (fun h => ((hmem c).1 h).elim hm hc2)]
    · have hj' : j = (q.O tid).length := by omega
      refine ⟨q1, h16, hq1, eqb, ?_, hO⟩
      rw [hS, hj', List.take_length]
      funext c
      unfold cancelS
      by_cases hm : c ∈ q.O tid
      · rw [if_pos hm]
      · rw [if_neg hm, filter_out (fun ht => hm ((hq.both tid c).1 ht))]
end
end Go.Proofs.Ytmffnjdndhkbhaa
