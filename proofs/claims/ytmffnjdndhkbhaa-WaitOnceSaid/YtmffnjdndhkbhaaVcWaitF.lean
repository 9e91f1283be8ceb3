/- A part of the proof: lemmas. -/
import Derived.Test.YtmffnjdndhkbhaaVcWaitE
namespace Go.Proofs.Ytmffnjdndhkbhaa
open Go Go.Vc
set_option maxRecDepth 100000
set_option linter.unusedVariables false

def repl (from' to : Chan) (c : Chan) : Chan := if c = from' then to else c
def replO (O : Int → List Chan) (tid : Int) (from' to : Chan) : Int → List Chan := fun t => if t = tid then (O tid).map (repl from' to) else O t
abbrev MSt := (Chan → List Int) × (Int → List Chan) × Int
def moveStep (from' to : Chan) (n : Int) (st : MSt) (tid : Int) : MSt :=
  if n ≤ st.2.2 ∨ to ∈ st.2.1 tid then st else (pushS (leaveS st.1 tid from') tid to, replO st.2.1 tid from' to, st.2.2 + 1)
def moveAll (S : Chan → List Int) (O : Int → List Chan) (from' to : Chan) (n : Int) (l : List Int) : MSt := l.foldl (moveStep from' to n) (S, O, 0)
theorem move_stop {from' to : Chan} {n : Int} {st : MSt} (h : n ≤ st.2.2) (l : List Int) : l.foldl (moveStep from' to n) st = st := by
  induction l with
  | nil => rfl
  | cons t l ih =>
    rw [List.foldl_cons]
    have e : moveStep from' to n st t = st := by unfold moveStep; rw [if_pos (.inl h)]
    rw [e]; exact ih
theorem set_repl {l : List Chan} {from' to : Chan} {i : Nat} (hn : l.Nodup) (hi : i < l.length) (e : l[i] = from') : l.set i to = l.map (repl from' to) := by
  refine List.ext_getElem (by simp) fun j h1 h2 => ?_
  have hj : j < l.length := by simpa using h2
  rw [List.getElem_set, List.getElem_map]
  unfold repl
  by_cases hij : i = j
  · subst hij; rw [if_pos rfl, if_pos e]
  · rw [if_neg hij, if_neg]
    intro e2
    exact hij ((List.getElem_inj hn).1 (e.trans e2.symm))
theorem mem_repl {l : List Chan} {from' to c : Chan} (hf : from' ∈ l) : c ∈ l.map (repl from' to) ↔ c = to ∨ (c ≠ from' ∧ c ∈ l) := by
  rw [List.mem_map]
  unfold repl
  constructor
  · rintro ⟨d, hd, e⟩
    by_cases h : d = from'
    · rw [if_pos h] at e; exact .inl e.symm
    · rw [if_neg h] at e; subst e; exact .inr ⟨h, hd⟩
  · rintro (e | ⟨h1, h2⟩)
    · exact ⟨from', hf, by rw [if_pos rfl, e]⟩
    · exact ⟨c, h2, by rw [if_neg h1]⟩
theorem nodup_repl {l : List Chan} {from' to : Chan} (hn : l.Nodup) (ht : to ∉ l) : (l.map (repl from' to)).Nodup := by
  rw [List.nodup_iff_pairwise_ne, List.pairwise_map]
  refine List.Pairwise.imp_of_mem (fun {a b} ha hb hab => ?_) (List.nodup_iff_pairwise_ne.1 hn)
  unfold repl
  by_cases h1 : a = from'
  · rw [if_pos h1]
    by_cases h2 : b = from'
    · exact absurd (h1.trans h2.symm) hab
    · rw [if_neg h2]; exact fun e => ht (e ▸ hb)
  · rw [if_neg h1]
    by_cases h2 : b = from'
    · rw [if_pos h2]; exact fun e => ht (e ▸ ha)
    · rw [if_neg h2]; exact hab
section
variable {w0 w : World} {Im : Mem} {Fr L : List (Nat × Obj)} {q : QueueG} {R : Ending → World → Prop}
theorem chan_mem {b : Nat} {k : Chan} (h : Own w0 Im w L) (hm : (b, Obj.cells (chanC k).toArray 29 (0, 0)) ∈ L) : CellsAt w ⟨b, 0, none⟩ (chanC k) := fun j v hj => by
  rw [add_none, cell_of (h.mem hm), Nat.zero_add, List.getElem?_toArray]; exact hj
theorem on_reads (hq : QW q) (t : Int) : CReads w0 Im (vecA (avV q.OE t)) (q.O t) (q.L ++ Fr) := fun w' A h j hj => by
  obtain ⟨g, e1, e2⟩ := on_at (Fr := Fr) (h.sub (List.sublist_append_right A _)) hq hj
  exact ⟨g, 0, e1, e2⟩
theorem qb_cell (h : Own w0 Im w L) (hm : (q.qb, Obj.cells q.cells 52 (0, 0)) ∈ L) (i : Nat) : w.cell? ⟨q.qb, i, none⟩ = (#[.map (some q.sb), .map (some q.ob)] : Array Value)[i]? := cell_of (h.mem hm) i
/-- Move -/
theorem s11 {from' to : Chan} {n : Int} (h : Own w0 Im w (q.L ++ Fr)) (hq : QOk q)
    (hno : from' = to → ∀ w', Own w0 Im w' (q.L ++ Fr) → R (.returned (.int .i64 0)) w')
    (hR : from' ≠ to → ∀ w' q', Own w0 Im w' (q'.L ++ Fr) → QOk q' → QTurn q q' (moveAll q.S q.O from' to n (q.S from')).1 (moveAll q.S q.O from' to n (q.S from')).2.1 q.K → R (.returned (.int .i64 (moveAll q.S q.O from' to n (q.S from')).2.2)) w') :
    Calls Try.prog 11 #[.pointer (some ⟨q.qb, 0, none⟩), .agg #[.int .i64 from'.1, .int .i64 from'.2.1, .int .i64 from'.2.2], .agg #[.int .i64 to.1, .int .i64 to.2.1, .int .i64 to.2.2], .int .i64 n] w R := by
  apply vc11
  unfold Vc11
  intro b9 w10 e9 e10 b11 w12 e11 e12
  obtain ⟨B9, hB9⟩ : ∃ B : Nat × Obj, B = (b9, Obj.cells (chanC from').toArray 29 (0, 0)) := ⟨_, rfl⟩
  obtain ⟨B11, hB11⟩ : ∃ B : Nat × Obj, B = (b11, Obj.cells (chanC to).toArray 29 (0, 0)) := ⟨_, rfl⟩
  have h12 : Own w0 Im w12 (B11 :: B9 :: (q.L ++ Fr)) := by rw [hB9, hB11]; exact (h.alloc' e9 e10).alloc' e11 e12
  have c9 : ∀ {w' : World} {l : List (Nat × Obj)}, Own w0 Im w' l → B9 ∈ l → CellsAt w' ⟨b9, 0, none⟩ (chanC from') := fun h hm => chan_mem h (by rw [← hB9]; exact hm)
  have c11 : ∀ {w' : World} {l : List (Nat × Obj)}, Own w0 Im w' l → B11 ∈ l → CellsAt w' ⟨b11, 0, none⟩ (chanC to) := fun h hm => chan_mem h (by rw [← hB11]; exact hm)
  refine ⟨_, _, _, c9 h12 (by simp), _, _, _, c11 h12 (by simp), decide (from' = to), fun w' => chan_guard _ _ w', fun w' => chan_eq _ _ w', fun e => hno (of_decide_eq_true e) _ ((h12.tail rfl).tail rfl), fun e => ?_⟩
  have hft := of_decide_eq_false e
  refine ⟨_, _, _, c9 h12 (by simp), ?_⟩
  refine s8 (c := from') (Fr := B11 :: B9 :: Fr) (h12.perm (by_count fun a => by simp only [List.count_append, List.count_cons]; omega)) hq.w fun w24 x h24 hx => ⟨_, _, _, rfl, ?_⟩
  have hsl := hq.sleepers from'
  have hnd := hq.one from'
  obtain ⟨l, hl⟩ : ∃ l, l = q.S from' := ⟨_, rfl⟩
  have hR := hR hft
  rw [← hl] at hx hsl hR hnd ⊢
  obtain ⟨F, hF⟩ : ∃ F, F = vecL 3 x ++ (B11 :: B9 :: Fr) := ⟨_, rfl⟩
  have m9 : ∀ {l : List (Nat × Obj)}, B9 ∈ l ++ F := by rw [hF]; simp
  have m11 : ∀ {l : List (Nat × Obj)}, B11 ∈ l ++ F := by rw [hF]; simp
  have h24F : Own w0 Im w24 (q.L ++ F) := h24.perm (by rw [hF]; exact by_count fun a => by simp only [List.count_append, List.count_cons]; omega)
  have hfin : ∀ {w' : World} {q1 : QueueG} {k : Int} {j : Nat}, moveAll q.S q.O from' to n l = moveAll q.S q.O from' to n (l.take j) → Own w0 Im w' (q1.L ++ F) → QOk q1 → q1.qb = q.qb → (q1.S, q1.O, k) = moveAll q.S q.O from' to n (l.take j) → q1.K.Perm q.K → R (.returned (.int .i64 k)) w' := fun {w' q1 k j} e ho h1 h2 h3 h4 => by
    rw [e, ← h3] at hR
    refine hR w' q1 (ho.sub (List.Sublist.append_left ?_ _)) h1 ⟨h2, rfl, rfl, h4⟩
    rw [hF]
    exact ((List.sublist_cons_self _ _).trans (List.sublist_cons_self _ _)).trans (List.sublist_append_right _ _)
  refine ⟨fun m k v w' => ∃ (j : Nat) (q1 : QueueG), m = l.length - j ∧ v = j ∧ j ≤ l.length ∧ 0 ≤ k ∧ k ≤ j ∧ Own w0 Im w' (q1.L ++ F) ∧ QOk q1 ∧ q1.qb = q.qb ∧ (q1.S, q1.O, k) = moveAll q.S q.O from' to n (l.take j) ∧ q1.K.Perm q.K ∧ ∀ t ∈ l.drop j, t ∈ q1.S from',
    ⟨_, 0, q, rfl, rfl, by omega, by omega, by omega, h24F, hq, rfl, rfl, List.Perm.refl _, fun t ht => by rw [← hl]; exact ht⟩, ?_⟩
  rintro m k v w29 ⟨j, q1, rfl, rfl, hj, hk0, hkj, h29, hq1, eqb, hst, hK, hin⟩
  refine ⟨fun hlt => ?_, fun hge => ?_⟩
  · have hj' : j < l.length := by omega
    obtain ⟨g, eg, hc⟩ := int_at h29 (fun p hp => by rw [hF]; simp [hp]) hx hj'
    have htk := List.take_succ_eq_append_getElem hj'
    have hstep : moveAll q.S q.O from' to n (l.take (j + 1)) = moveStep from' to n (q1.S, q1.O, k) l[j] := by
      rw [hst]; unfold moveAll; rw [htk, List.foldl_append]; rfl
    generalize htid : l[j] = tid at *
    refine ⟨_, _, eg, by omega, hlt, _, hc, fun hfull => ?_, fun hmore => ?_⟩
    · refine hfin (j := j) ?_ h29 hq1 eqb hst hK
      have e1 : l = l.take j ++ l.drop j := (List.take_append_drop j l).symm
      unfold moveAll at hst ⊢
      conv => lhs; rw [e1]
      rw [List.foldl_append, ← hst, move_stop hfull]
    · have hd := h29.drew
      have htin : tid ∈ q1.S from' := hin tid (by rw [List.drop_eq_getElem_cons hj', htid]; simp)
      have hfon : from' ∈ q1.O tid := (hq1.both tid from').1 htin
      refine ⟨_, _, rfl, _, by rw [← eqb]; exact hd.cell 0 rfl _, _, _, _, look_o hd (by simp [QueueG.L]) hq1.w tid false, _, _, _, c11 hd m11, ?_⟩
      have hon1 := hq1.w.on tid
      refine s18 (c := to) (ks := q1.O tid) hd (on_reads hq1.w tid) rfl (by omega) fun w41 h41 => ⟨_, rfl, by rw [← eqb]; exact h41.cell 0 rfl _, fun e => ?_, fun e => ?_⟩
      · intro r42 e42
        have e := of_decide_eq_true e
        rw [wrap_id (by omega) (by omega)] at e42
        refine ⟨_, by omega, j + 1, q1, rfl, by omega, by omega, hk0, by omega, h41, hq1, eqb, ?_, hK, fun t ht => hin t ?_⟩
        · rw [hstep]
          unfold moveStep
          rw [if_pos (.inr e)]
        · rw [List.drop_eq_getElem_cons hj']; exact List.mem_cons_of_mem _ ht
      · have hton := of_decide_eq_false e
        refine ⟨_, _, _, c9 h41 m9, ?_⟩
        rw [← eqb]
        refine s21 (c := from') (tid := tid) h41 hq1.w fun w47 q2 h47 hq2 eqb2 hS2 hO2 => ⟨rfl, ?_⟩
        have hd2 := h47.drew
        have hO2' : q2.O = q1.O := by unfold QueueG.O; rw [hO2]
        have hon2 : (q2.O tid).length ≤ 16 := hq2.on tid
        rw [← eqb2]
        refine ⟨_, hd2.cell 0 rfl _, _, _, _, look_o hd2 (by simp [QueueG.L]) hq2 tid false, _, hd2.cell 0 rfl _, _, _, _, look_o hd2 (by simp [QueueG.L]) hq2 tid false, _, _, _, c9 hd2 m9, _, _, _, c11 hd2 m11, ?_⟩
        refine s22 (c := from') (ks := q2.O tid) hd2 (on_reads hq2 tid) rfl (by omega) (fun hn => absurd (by rw [hO2']; exact hfon) hn) fun i hi ei w60 h60 => ⟨_, rfl, c11 h60 m11, h60.cell 0 rfl _, look_o h60 (by simp [QueueG.L]) hq2 tid false, h60.cell 0 rfl _, ?_⟩
        have hp := avBlocks_open 29 hq2.o.nd tid
        have h60p := h60.perm (L' := vecL 29 (avV q2.OE tid) ++ ((q2.qb, .cells q2.cells 52 (0, 0)) :: (q2.sb, mapObj chanE q2.SM q2.sclk) :: (q2.ob, mapObj (Vc.encI .i64) q2.OM q2.oclk) :: (avBlocks 3 q2.SE ++ (avBlocks 29 (avDel q2.OE tid) ++ F)))) (by_count fun a => by
          have := count_of hp a
          simp only [List.count_append] at this
          simp only [QueueG.L, List.count_append, List.cons_append, List.count_cons]
          omega)
        obtain ⟨g2, eg2, hok, x', ea', ec', h63, hx'⟩ := vecE_put (f := chanC) chanC_len h60p (hq2.o.vecAt tid) (i := i) hi to
        refine ⟨_, _, eg2, by omega, by omega, by rw [Nat.zero_add]; exact hok, fun w63 e63 => ?_⟩
        rw [Nat.zero_add] at e63
        have e63' : w63 = putCells w60 ⟨g2, i * 3, none⟩ (chanC to) 0 := e63
        rw [← e63'] at h63
        have hnd2 : (q2.O tid).Nodup := by rw [hO2']; exact hq1.ond tid
        have hxl : VecE chanC 3 x' ((q1.O tid).map (repl from' to)) := by
          have := set_repl (to := to) hnd2 hi ei
          rw [← hO2', ← this]; exact hx'
        obtain ⟨q3, hq3⟩ : ∃ q3 : QueueG, q3 = { q2 with OE := ⟨tid, x', (q1.O tid).map (repl from' to)⟩ :: avDel q2.OE tid } := ⟨_, rfl⟩
        have hO3 : q3.O = replO q1.O tid from' to := by
          funext t
          unfold replO
          rw [hq3]
          have := avL_put (A := q2.OE) (k := tid) (k' := t) (v := x') (l := (q1.O tid).map (repl from' to))
          have e : avL q2.OE t = q1.O t := congrFun hO2' t
          rw [e] at this
          exact this
        have hS3 : q3.S = leaveS q1.S tid from' := by rw [← hS2, hq3]; rfl
        have htk2 : tid ∈ q2.K := by
          unfold QueueG.K; rw [hO2]
          exact (hq1.some tid).2 (fun e => by rw [e] at hfon; cases hfon)
        have hW3 : QW q3 := by
          have hlen : ((q1.O tid).map (repl from' to)).length = (q2.O tid).length := by rw [List.length_map, hO2']
          refine ⟨by rw [hq3]; exact hq2.s, ?_, ?_, fun t => ?_, fun c => by rw [hS3, ← hS2]; exact hq2.sl c⟩
          · rw [hq3]
            refine ⟨?_, fun e he => ?_, fun k' => ?_, hq2.o.mnd, hq2.o.born⟩
            · show (tid :: (avDel q2.OE tid).map (·.k)).Nodup
              rw [List.nodup_cons]
              refine ⟨?_, (List.Sublist.map _ List.filter_sublist).nodup hq2.o.nd⟩
              rw [avDel_keys, List.mem_filter]; simp
            · rcases List.mem_cons.1 he with rfl | he
              · exact hxl
              · exact hq2.o.vec e (List.mem_filter.1 he).1
            · rw [hq2.o.map k']
              show _ = (avGet (⟨tid, x', (q1.O tid).map (repl from' to)⟩ :: avDel q2.OE tid) k').map AV.val
              rw [avGet_cons, avGet_del]
              by_cases hk' : k' = tid
              · subst hk'
                rw [if_pos rfl]
                cases hg : avGet q2.OE k' with
                | none => exact absurd htk2 (avGet_none.1 hg)
                | some e =>
                  have e1 : avV q2.OE k' = e.v := by unfold avV; rw [hg]; rfl
                  have e2 : q2.O k' = e.l := by show avL q2.OE k' = _; unfold avL; rw [hg]; rfl
                  show some e.val = some _
                  unfold AV.val
                  simp only
                  rw [ea', ec', e1, hlen, e2]
              · rw [if_neg (fun e => hk' e.symm), if_neg hk']
          · rw [hq3]
            have h1 := (avDel_perm hq2.o.nd (k := tid) (e := ((avGet q2.OE tid).get (by
              cases hg : avGet q2.OE tid with
              | none => exact absurd htk2 (avGet_none.1 hg)
              | some e => rfl))) (by simp)).length_eq
            have h2 := hq2.few
            simp only [List.length_cons] at h1 ⊢
            omega
          · rw [hO3]
            unfold replO
            by_cases ht : t = tid
            · rw [if_pos ht, List.length_map, ← hO2']; exact hon2
            · rw [if_neg ht]; exact hq1.w.on t
        have h63q : Own w0 Im w63 (q3.L ++ F) := h63.perm (by_count fun a => by
          rw [hq3]
          simp only [QueueG.L, QueueG.cells, avBlocks, List.flatMap_cons, List.count_append, List.cons_append, List.count_cons]
          omega)
        have hd3 := h63q.drew
        have eqb3 : q3.qb = q2.qb := by rw [hq3]
        rw [← eqb3]
        refine ⟨_, hd3.cell 0 rfl _, _, _, _, c11 hd3 m11, fun b68 w69 e68 e69 => ?_⟩
        have h69 := hd3.alloc' e68 e69
        refine ⟨c11 h69 (List.mem_cons_of_mem _ m11), h69.cell 1 rfl _, ?_⟩
        have hS3to : q3.S to = q1.S to := by rw [hS3]; unfold leaveS; rw [if_neg (fun e => hft e.symm)]
        obtain ⟨xx, s, w1, r1, y, w2, r2, w3, r3, q4, h4, hq4, eqb4, hS4, hO4⟩ := push (q := q3) (Fr := (b68, Obj.cells #[.int .i64 tid] 3 (0, 0)) :: F) (h69.perm (List.perm_middle.symm)) hW3 to (tid := tid) (b := b68) (by simp) (by rw [hS3to]; exact hq1.sleepers to)
        refine ⟨_, _, _, _, _, r1, _, _, _, _, r2, _, r3, fun r76 e76 r77 e77 => ?_⟩
        rw [wrap_id (by omega) (by omega)] at e76 e77
        have hO4' : q4.O = replO q1.O tid from' to := by rw [← hO3]; unfold QueueG.O; rw [hO4]
        have hS4' : q4.S = pushS (leaveS q1.S tid from') tid to := by rw [hS4, hS3]
        have hK4 : q4.K.Perm q1.K := by
          have h1 := (avDel_perm hq2.o.nd (k := tid) (e := ((avGet q2.OE tid).get (by
              cases hg : avGet q2.OE tid with
              | none => exact absurd htk2 (avGet_none.1 hg)
              | some e => rfl))) (by simp)).map (·.k)
          have e1 : q4.K = tid :: (avDel q2.OE tid).map (·.k) := by unfold QueueG.K; rw [hO4, hq3]; rfl
          have e2 : q2.K = q1.K := by unfold QueueG.K; rw [hO2]
          rw [e1, ← e2]
          refine List.Perm.trans ?_ h1.symm
          rw [List.map_cons]
          have e3 : ((avGet q2.OE tid).get (by
              cases hg : avGet q2.OE tid with
              | none => exact absurd htk2 (avGet_none.1 hg)
              | some e => rfl)).k = tid := (avGet_some (A := q2.OE) (by simp)).2
          rw [e3]
        have hSto : tid ∉ q1.S to := fun hm => hton ((hq1.both tid to).1 hm)
        refine ⟨_, by omega, j + 1, q4, rfl, by omega, by omega, by omega, by omega, h4.sub (List.Sublist.append_left (List.sublist_cons_self _ _) _), ⟨hq4, fun t c => ?_, fun c => ?_, fun t => ?_, fun t => ?_, fun t ht => hq1.pos t (hK4.mem_iff.1 ht)⟩, by rw [eqb4], ?_, hK4.trans hK, fun t ht => ?_⟩
        · rw [hS4', hO4']
          unfold pushS leaveS replO
          by_cases ht : t = tid
          · rw [if_pos ht, mem_repl hfon, ht]
            by_cases hc : c = to
            · rw [if_pos hc, if_neg (fun e => hft e.symm)]; simp [hc]
            · rw [if_neg hc]
              by_cases hc2 : c = from'
              · rw [if_pos hc2]; simp [hc2, hft]
              · rw [if_neg hc2, hq1.both tid c]; simp [hc, hc2]
          · rw [if_neg ht, ← hq1.both t c]
            by_cases hc : c = to
            · rw [if_pos hc, if_neg (fun e => hft e.symm), hc]; simp [ht]
            · rw [if_neg hc]
              by_cases hc2 : c = from'
              · rw [if_pos hc2, hc2]; simp [ht]
              · rw [if_neg hc2]
        · rw [hS4']
          unfold pushS leaveS
          by_cases hc : c = to
          · rw [if_pos hc, if_neg (fun e => hft e.symm), List.nodup_append]
            exact ⟨hq1.one to, by simp, fun a ha b hb => by simp at hb; subst hb; exact fun e => hSto (e ▸ ha)⟩
          · rw [if_neg hc]
            by_cases hc2 : c = from'
            · rw [if_pos hc2]; exact (hq1.one from').sublist List.filter_sublist
            · rw [if_neg hc2]; exact hq1.one c
        · rw [hO4', hK4.mem_iff, hq1.some t]
          unfold replO
          by_cases ht : t = tid
          · rw [if_pos ht, ht]; simp
          · rw [if_neg ht]
        · rw [hO4']
          unfold replO
          by_cases ht : t = tid
          · rw [if_pos ht]; exact nodup_repl (hq1.ond tid) hton
          · rw [if_neg ht]; exact hq1.ond t
        · rw [hstep]
          unfold moveStep
          rw [if_neg (fun hc => hc.elim (fun h => hmore h) hton), hS4', hO4', e76]
        · have htne : t ≠ tid := fun e => by
            have hnd' := hnd
            have e1 : l = l.take j ++ l[j] :: l.drop (j + 1) := by
              conv => lhs; rw [← List.take_append_drop j l, List.drop_eq_getElem_cons hj']
            rw [e1, List.nodup_append] at hnd'
            have := (List.nodup_cons.1 hnd'.2.1).1
            rw [htid] at this
            exact this (e ▸ ht)
          have h1 := hin t (by rw [List.drop_eq_getElem_cons hj']; exact List.mem_cons_of_mem _ ht)
          rw [hS4']
          unfold pushS leaveS
          rw [if_neg hft, if_pos rfl, List.mem_filter]
          exact ⟨h1, by simp [htne]⟩
  · have hj' : j = l.length := by omega
    exact hfin (j := j) (by rw [hj', List.take_length]) h29 hq1 eqb hst hK
end
end Go.Proofs.Ytmffnjdndhkbhaa
