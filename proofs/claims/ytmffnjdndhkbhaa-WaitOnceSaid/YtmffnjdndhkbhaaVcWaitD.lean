/- A part of the proof: lemmas. -/
import Derived.Test.YtmffnjdndhkbhaaVcWaitC
namespace Go.Proofs.Ytmffnjdndhkbhaa
open Go Go.Vc
set_option maxRecDepth 100000
set_option linter.unusedVariables false

theorem cancelK_perm {K K' : List Int} (h : K.Perm K') (t : Int) : (cancelK K t).Perm (cancelK K' t) := h.filter _
section
variable {w0 w : World} {Im : Mem} {Fr L : List (Nat × Obj)} {q : QueueG} {R : Ending → World → Prop}
/-- Wake -/
theorem s9 {c : Chan} {n : Int} (h : Own w0 Im w (q.L ++ Fr)) (hq : QOk q)
    (hR : ∀ w' q' x, Own w0 Im w' (vecL 3 x ++ (q'.L ++ Fr)) → QOk q' → QTurn q q' (((q.S c).take n.toNat).foldl cancelS q.S) (((q.S c).take n.toNat).foldl cancelO q.O) (((q.S c).take n.toNat).foldl cancelK q.K) →
      VecE intC 1 x ((q.S c).take n.toNat) → R (.returned (.slice (vecA x) ((q.S c).take n.toNat).length (vecC x))) w') :
    Calls Try.prog 9 #[.pointer (some ⟨q.qb, 0, none⟩), .agg #[.int .i64 c.1, .int .i64 c.2.1, .int .i64 c.2.2], .int .i64 n] w R := by
  apply vc9
  unfold Vc9
  intro b6 w7 e6 e7
  have h7 := h.alloc' e6 e7
  refine ⟨_, _, _, chanAt h7, ?_⟩
  have hsl := hq.sleepers c
  refine s8 (h7.tail rfl) hq.w fun w12 x h12 hx => ⟨_, _, _, rfl, ?_⟩
  obtain ⟨l, hl⟩ : ∃ l, l = q.S c := ⟨_, rfl⟩
  rw [← hl] at hx hsl hR ⊢
  have hfin : ∀ {w' : World} {j : Nat} {xo : VecB} {q1 : QueueG}, l.take n.toNat = l.take j → j ≤ l.length → Own w0 Im w' (vecL 3 xo ++ (vecL 3 x ++ (q1.L ++ Fr))) → QOk q1 → QTurn q q1 ((l.take j).foldl cancelS q.S) ((l.take j).foldl cancelO q.O) ((l.take j).foldl cancelK q.K) → VecE intC 1 xo (l.take j) →
      R (.returned (.slice (vecA xo) j (vecC xo))) w' := fun {w' j xo q1} e hj ho h1 h2 h3 => by
    have := hR w' q1 xo (ho.sub (List.Sublist.append_left (List.sublist_append_right _ _) _)) h1 (by rw [e]; exact h2) (by rw [e]; exact h3)
    rw [e, List.length_take, Nat.min_eq_left hj] at this
    exact this
  refine ⟨fun m a k cc v w' => ∃ (j : Nat) (xo : VecB) (q1 : QueueG), m = l.length - j ∧ v = j ∧ j ≤ l.length ∧ j ≤ n.toNat ∧ a = vecA xo ∧ j = k ∧ cc = vecC xo ∧ Own w0 Im w' (vecL 3 xo ++ (vecL 3 x ++ (q1.L ++ Fr))) ∧ QOk q1 ∧ QTurn q q1 ((l.take j).foldl cancelS q.S) ((l.take j).foldl cancelO q.O) ((l.take j).foldl cancelK q.K) ∧ VecE intC 1 xo (l.take j),
    ⟨_, 0, none, q, rfl, rfl, by omega, by omega, rfl, rfl, rfl, h12, hq, QTurn.refl q, VecE.nil⟩, ?_⟩
  rintro m a k cc v w17 ⟨j, xo, q1, rfl, rfl, hj, hjn, rfl, rfl, rfl, h17, hq1, ht1, hxo⟩
  refine ⟨fun hlt => ?_, fun hge => ?_⟩
  · have hj' : j < l.length := by omega
    obtain ⟨g, eg, hc⟩ := int_at h17 (fun p hp => by simp [hp]) hx hj'
    refine ⟨_, _, eg, by omega, hlt, _, hc, fun hfull => ?_, fun hmore => ?_⟩
    · exact hfin (by rw [show n.toNat = j by omega]) hj h17 hq1 ht1 hxo
    · rw [← ht1.qb]
      have hp : ∀ q1 : QueueG, (vecL 3 xo ++ (vecL 3 x ++ (q1.L ++ Fr))).Perm (q1.L ++ (vecL 3 xo ++ (vecL 3 x ++ Fr))) := fun q1 => by_count fun a => by
        simp only [List.count_append]; omega
      refine s10 (tid := l[j]) (h17.perm (hp q1)) hq1 fun w22 q2 h22 hq2 ht2 => ⟨_, rfl, fun b24 w25 e24 e25 => ?_⟩
      have h25 := (h22.perm (hp q2).symm).alloc' e24 e25
      have htl : (l.take j).length = j := by rw [List.length_take]; omega
      obtain ⟨v', w26, hr, h26, hv'⟩ := vecE_append (n := 1) (P := Try.prog) (t := 34) (ty := 34) (e := 3) (bytes := 8) (z := .int .i64 0) Try.underlying34 Try.type3 rfl rfl rfl rfl intC_len intC_one (h25.perm (perm_l [_] (vecL 3 xo) _)) hxo (a := some ⟨b24, 0, none⟩) (c := 1) (ys := [l[j]])
        (fun _ => ⟨_, rfl, h25.cellsAt 0 rfl (fun i u hi => by rw [Nat.zero_add, List.getElem?_toArray]; exact (show (intC l[j])[i]? = some u from by simpa using hi))⟩) (by rw [htl]; simp only [List.length_singleton]; omega) (by rw [htl]; simp only [List.length_singleton, maxLen]; omega)
      rw [htl] at hr
      refine ⟨_, _, _, w26, hr, fun r28 e28 => ?_⟩
      rw [wrap_id (by omega) (by omega)] at e28
      have htk := List.take_succ_eq_append_getElem hj'
      refine ⟨_, by omega, j + 1, v', q2, rfl, by omega, by omega, by omega, rfl, rfl, rfl, h26.sub (List.Sublist.append_left (List.sublist_append_right _ _) _), hq2, ⟨ht2.qb.trans ht1.qb, ?_, ?_, ?_⟩, by rw [htk]; exact hv'⟩
      · rw [htk, List.foldl_append, ht2.S, ht1.S]; rfl
      · rw [htk, List.foldl_append, ht2.O, ht1.O]; rfl
      · rw [htk, List.foldl_append]
        exact ht2.K.trans (cancelK_perm ht1.K _)
  · have : j = l.length := by omega
    exact hfin (by rw [List.take_of_length_le (by omega), List.take_of_length_le (by omega)]) hj h17 hq1 ht1 hxo
/-- Channels that stand in memory, whatever else turns. -/
def CReads (w0 : World) (Im : Mem) (a : Option Addr) (ks : List Chan) (Fr : List (Nat × Obj)) : Prop := ∀ w' A, Own w0 Im w' (A ++ Fr) → ∀ j (hj : j < ks.length), ∃ b o, a = some ⟨b, o, none⟩ ∧ CellsAt w' ⟨b, o + j * 3, none⟩ (chanC ks[j])
theorem CReads.vec {x : VecB} {ks : List Chan} (hx : VecE chanC 3 x ks) : CReads w0 Im (vecA x) ks (vecL 29 x ++ L) := fun w' A h j hj => by
  obtain ⟨g, eg, hc⟩ := vecE_at (e := 29) chanC_len h (fun p hp => by simp [hp]) hx hj
  exact ⟨g, 0, eg, by rw [Nat.zero_add]; exact hc⟩
theorem CReads.in {a : Option Addr} {l : Nat} {ks : List Chan} (hi : InE Im chanC 3 a l ks) : CReads w0 Im a ks L := fun w' A h j hj => by
  obtain ⟨b, o, ea, hc, _⟩ := hi.get h hj
  exact ⟨b, o, ea, hc⟩
theorem CReads.take {a : Option Addr} {ks : List Chan} (hr : CReads w0 Im a ks L) (i : Nat) : CReads w0 Im a (ks.take i) L := fun w' A h j hj => by
  rw [List.length_take] at hj
  obtain ⟨b, o, ea, hc⟩ := hr w' A h j (by omega)
  exact ⟨b, o, ea, by rw [List.getElem_take]; exact hc⟩
theorem CReads.more {a : Option Addr} {ks : List Chan} (hr : CReads w0 Im a ks L) (B : List (Nat × Obj)) : CReads w0 Im a ks (B ++ L) := fun w' A h j hj => hr w' (A ++ B) (by rw [List.append_assoc]; exact h) j hj
/-- slices.Index, of a channel -/
theorem s22 {a : Option Addr} {l k : Nat} {ks : List Chan} {c : Chan} (h : Own w0 Im w L) (hr : CReads w0 Im a ks L) (hl : l = ks.length) (hb : ks.length ≤ 4611686018427387904)
    (hno : c ∉ ks → ∀ w', Own w0 Im w' L → R (.returned (.int .i64 (-1))) w')
    (hyes : ∀ i (hi : i < ks.length), ks[i] = c → ∀ w', Own w0 Im w' L → R (.returned (.int .i64 i)) w') :
    Calls Try.prog 22 #[.slice a l k, .agg #[.int .i64 c.1, .int .i64 c.2.1, .int .i64 c.2.2]] w R := by
  subst hl
  apply vc22
  unfold Vc22
  intro b5 w6 e5 e6
  have h6 := h.alloc' e5 e6
  refine ⟨fun m v w' => ∃ j : Nat, m = ks.length - j ∧ v = j ∧ j ≤ ks.length ∧ c ∉ ks.take j ∧ Own w0 Im w' ((b5, .cells (chanC c).toArray 29 (0, 0)) :: L), ⟨_, 0, rfl, rfl, by omega, by simp, h6⟩, ?_⟩
  rintro m v w9 ⟨j, rfl, rfl, hj, hn, h9⟩
  refine ⟨fun hlt => ?_, fun hge => ?_⟩
  · have hj' : j < ks.length := by omega
    have hd := h9.drew
    obtain ⟨g, o, eg, hc⟩ := hr _ [_] hd j hj'
    refine ⟨_, _, eg, by omega, hlt, _, _, _, chanAt hd, _, _, _, hc, decide (c = ks[j]), fun w' => chan_guard _ _ w', fun w' => chan_eq _ _ w', fun e => ?_, fun e r19 e19 => ?_⟩
    · exact hyes j hj' (of_decide_eq_true e).symm _ (hd.tail rfl)
    · rw [wrap_id (by omega) (by omega)] at e19
      refine ⟨_, by omega, j + 1, rfl, by omega, by omega, ?_, hd⟩
      rw [List.take_succ_eq_append_getElem hj', List.mem_append, List.mem_singleton]
      exact fun h => h.elim hn (of_decide_eq_false e)
  · have : j = ks.length := by omega
    rw [this, List.take_length] at hn
    exact hno hn _ (h9.tail rfl)
/-- slices.Contains, of a channel -/
theorem s18 {a : Option Addr} {l k : Nat} {ks : List Chan} {c : Chan} (h : Own w0 Im w L) (hr : CReads w0 Im a ks L) (hl : l = ks.length) (hb : ks.length ≤ 4611686018427387904)
    (hR : ∀ w', Own w0 Im w' L → R (.returned (.bool (decide (c ∈ ks)))) w') :
    Calls Try.prog 18 #[.slice a l k, .agg #[.int .i64 c.1, .int .i64 c.2.1, .int .i64 c.2.2]] w R := by
  apply vc18
  unfold Vc18
  intro b5 w6 e5 e6
  have h6 := h.alloc' e5 e6
  refine ⟨_, _, _, chanAt h6, ?_⟩
  refine s22 (c := c) (h6.tail rfl) hr hl hb (fun hn w' h' => ⟨_, rfl, ?_⟩) fun i hi e w' h' => ⟨_, rfl, ?_⟩
  · have := hR w' h'
    rw [decide_eq_false hn] at this
    exact this
  · have := hR w' h'
    rw [decide_eq_true (by rw [← e]; exact List.getElem_mem hi)] at this
    rw [decide_eq_true (by omega)]
    exact this
/-- slices.Clone, of channels that are read -/
theorem s19r {a : Option Addr} {k : Nat} {ks : List Chan} (h : Own w0 Im w L) (hr : CReads w0 Im a ks L) (hne : ks ≠ []) (hb : ks.length ≤ 1000000)
    (hR : ∀ w' x, Own w0 Im w' (vecL 29 x ++ L) → VecE chanC 3 x ks → R (.returned (.slice (vecA x) ks.length (vecC x))) w') :
    Calls Try.prog 19 #[.slice a ks.length k] w R := by
  have h0 : 0 < ks.length := List.length_pos_iff.2 hne
  apply vc19
  unfold Vc19
  refine ⟨fun e => ?_, fun he b2 w3 e2 e3 => ?_⟩
  · obtain ⟨b, o, ea, _⟩ := hr w [] h 0 h0
    rw [e] at ea; cases ea
  · have h3 := h.alloc' e2 e3
    obtain ⟨b, o, ea, _⟩ := hr w3 [_] h3 0 h0
    have hc : CellsAt w3 ⟨b, o, none⟩ (ks.flatMap chanC) := fun j v hj => by
      have hjl := (List.getElem?_eq_some_iff.1 hj).1
      rw [flat_len chanC chanC_len] at hjl
      have hq : j / 3 < ks.length := by omega
      obtain ⟨b', o', ea', hc'⟩ := hr w3 [_] h3 (j / 3) hq
      rw [ea] at ea'
      simp only [Option.some.injEq, Addr.mk.injEq] at ea'
      obtain ⟨rfl, rfl, _⟩ := ea'
      have hf := flatN chanC chanC_len ks hq (j % 3) (by omega)
      have e1 : j / 3 * 3 + j % 3 = j := by omega
      rw [e1, hj] at hf
      have := hc' (j % 3) v hf.symm
      rw [add_none] at this ⊢
      rw [Nat.add_assoc, e1] at this
      exact this
    obtain ⟨x', w', hr', ho, hx'⟩ := vecE_append (n := 3) (P := Try.prog) (t := 27) (ty := 27) (e := 29) (bytes := 24) (z := .agg #[.int .i64 0, .int .i64 0, .int .i64 0]) (L := L) (x := some (b2, 0, [])) (xs := ([] : List Chan)) (a := a) (c := k) (ys := ks) Try.underlying27 Try.type29 rfl rfl rfl rfl chanC_len chanC_one h3 ⟨rfl, Nat.le_refl _, Nat.zero_le _, rfl, rfl⟩
      (fun _ => ⟨_, ea, hc⟩) (by simp only [List.length_nil]; omega) (by simp only [List.length_nil, maxLen]; omega)
    simp only [List.length_nil, Nat.zero_add, List.nil_append] at hr' hx'
    exact ⟨_, _, _, w', hr', hR w' x' ho hx'⟩
def pushS (S : Chan → List Int) (tid : Int) (c : Chan) : Chan → List Int := fun x => if x = c then S c ++ [tid] else S x
/-- q.sleepers[c] = append(q.sleepers[c], tid) -/
theorem push (h : Own w0 Im w (q.L ++ Fr)) (hq : QW q) (c : Chan) {tid : Int} {b : Nat} (hb : (b, Obj.cells #[.int .i64 tid] 3 (0, 0)) ∈ Fr) (hl : (q.S c).length ≤ 64) :
    ∃ (x : VecB) (s : Int) (w1 : World), (Instr.mapEntry 49 (.map (some q.sb)) (chanE c)).run Try.prog w = .ok (.tuple #[.slice (vecA x) (q.S c).length (vecC x), .int .i64 s]) w1 ∧
    ∃ (y : VecB) (w2 : World), (Builtin.append_ #[34, 34] 34 #[.slice (vecA x) (q.S c).length (vecC x), .slice (some ⟨b, 0, none⟩) 1 1]).run Try.prog w1 = .ok (.slice (vecA y) ((q.S c).length + 1) (vecC y)) w2 ∧
    ∃ w3, (Instr.entryStore 49 (.map (some q.sb)) (.int .i64 s) (.slice (vecA y) ((q.S c).length + 1) (vecC y))).run Try.prog w2 = .ok () w3 ∧
    ∃ q' : QueueG, Own w0 Im w3 (q'.L ++ Fr) ∧ QW q' ∧ q'.qb = q.qb ∧ q'.S = pushS q.S tid c ∧ q'.OE = q.OE := by
  have hlook := hq.s.look c
  obtain ⟨s, hms, hrun⟩ := run_mapEntry (P := Try.prog) (t := 49) Try.underlying49 keyChan hq.s.mnd (h.mem (b := q.sb) (o := mapObj chanE q.SM q.sclk) (by simp [QueueG.L])) c (z := .slice none 0 0) Try.type34 rfl
  have hp := avBlocks_open 3 hq.s.nd c
  have hm : Own w0 Im w ((q.sb, mapObj chanE q.SM q.sclk) :: (vecL 3 (avV q.SE c) ++ ((q.qb, .cells q.cells 52 (0, 0)) :: (q.ob, mapObj (Vc.encI .i64) q.OM q.oclk) :: (avBlocks 3 (avDel q.SE c) ++ (avBlocks 29 q.OE ++ Fr))))) := h.perm (by_count fun a => by
    have := count_of hp a
    simp only [List.count_append] at this
    simp only [QueueG.L, List.count_append, List.cons_append, List.count_cons]
    omega)
  rw [hlook] at hms hrun
  have h1 := hm.setObj 0 rfl (o' := mapObj chanE (aput q.SM q.sclk c (.slice (vecA (avV q.SE c)) (avL q.SE c).length (vecC (avV q.SE c)))).1 (aput q.SM q.sclk c (.slice (vecA (avV q.SE c)) (avL q.SE c).length (vecC (avV q.SE c)))).2)
  refine ⟨avV q.SE c, s, _, hrun, ?_⟩
  obtain ⟨y, w2, hr2, h2, hy⟩ := vecE_append (n := 1) (P := Try.prog) (t := 34) (ty := 34) (e := 3) (bytes := 8) (z := Value.int .i64 0) Try.underlying34 Try.type3 rfl rfl rfl rfl intC_len intC_one (h1.perm (perm_l [_] (vecL 3 (avV q.SE c)) _)) (hq.s.vecAt c) (a := some ⟨b, 0, none⟩) (c := 1) (ys := [tid])
    (fun _ => ⟨_, rfl, fun j v hj => by
      rw [add_none, cell_of (h1.mem (b := b) (o := Obj.cells #[.int .i64 tid] 3 (0, 0)) (by simp [hb]))]
      have hj : (intC tid)[j]? = some v := by simpa using hj
      rw [Nat.zero_add]
      have e : (#[.int .i64 tid] : Array Value) = (intC tid).toArray := rfl
      rw [e, List.getElem?_toArray]; exact hj⟩) (by simp only [List.length_singleton]; show ((q.S c).length + 1) * 8 ≤ _; omega) (by simp only [List.length_singleton, maxLen]; show (q.S c).length + 1 ≤ _; omega)
  refine ⟨y, w2, hr2, ?_⟩
  have h2m := h2.perm (perm_l [_] (vecL 3 y) _).symm
  have hput := hq.s.put c (v := avV q.SE c) (hq.s.vecAt c)
  have hst := run_entryStore (P := Try.prog) (t := 49) (enc := chanE) hput.mnd hput.born (h2m.get 0 rfl) hms (.slice (vecA y) ((q.S c).length + 1) (vecC y))
  have hag := aput_again (M := q.SM) (clk := q.sclk) (a := c) (u := .slice (vecA (avV q.SE c)) (avL q.SE c).length (vecC (avV q.SE c))) (v := .slice (vecA y) ((q.S c).length + 1) (vecC y))
  rw [hag.1, hag.2] at hst
  refine ⟨_, hst, ?_⟩
  have h3 := h2m.setObj 0 rfl (o' := mapObj chanE (aput q.SM q.sclk c (.slice (vecA y) ((q.S c).length + 1) (vecC y))).1 (aput q.SM q.sclk c (.slice (vecA y) ((q.S c).length + 1) (vecC y))).2)
  have hlen : (q.S c ++ [tid]).length = (q.S c).length + 1 := by simp
  obtain ⟨q', hq'⟩ : ∃ q' : QueueG, q' = { q with SM := (aput q.SM q.sclk c (.slice (vecA y) ((q.S c).length + 1) (vecC y))).1, sclk := (aput q.SM q.sclk c (.slice (vecA y) ((q.S c).length + 1) (vecC y))).2, SE := ⟨c, y, q.S c ++ [tid]⟩ :: avDel q.SE c } := ⟨_, rfl⟩
  have hS : q'.S = pushS q.S tid c := by
    funext c'
    unfold pushS
    rw [hq']
    exact avL_put
  have hs := hq.s.put c (v := y) (l := q.S c ++ [tid]) hy
  rw [hlen] at hs
  refine ⟨q', h3.perm (by_count fun a => ?_), ⟨by rw [hq']; exact hs, by rw [hq']; exact hq.o, by rw [hq']; exact hq.few, by rw [hq']; exact hq.on, fun c' => ?_⟩, by rw [hq'], hS, by rw [hq']⟩
  · rw [hq']
    simp only [QueueG.L, QueueG.cells, avBlocks, List.flatMap_cons, List.set_cons_zero, List.count_append, List.cons_append, List.count_cons, List.nil_append]
    omega
  · rw [hS]
    unfold pushS
    by_cases hc : c' = c
    · rw [if_pos hc, hlen]; omega
    · rw [if_neg hc]; exact hq.sl c'
end
end Go.Proofs.Ytmffnjdndhkbhaa
