/- A part of the proof: lemmas. -/
import Derived.Test.YtdhdbdpemejpjaaVcTlbM
namespace Go.Proofs.Ytdhdbdpemejpjaa
open Go Go.Vc
set_option maxRecDepth 100000
set_option linter.unusedVariables false

def lessR (s : Int × List Int) (h : Int) : Int × List Int := (s.1, s.2.filter fun y => !decide (y = h))
def handAt (A : List (Int × List Int)) (h : Int) (j : Nat) : List (Int × List Int) := (A.take j).map (lessR · h) ++ A.drop j
def flushAt (Es : List (List (Key × Int))) (A : List (Int × List Int)) (h : Int) (j : Nat) : List (List (Key × Int)) := (A.take j).foldl (fun Es s => if h ∈ s.2 then flushEs Es h s.1 else Es) Es
theorem handAt_len (A : List (Int × List Int)) (h : Int) (j : Nat) : (handAt A h j).length = A.length := by
  unfold handAt
  simp; omega
theorem handAt_at {A : List (Int × List Int)} {h : Int} {j : Nat} (hj : j < A.length) : (handAt A h j)[j]'(by rw [handAt_len]; exact hj) = A[j] := by
  unfold handAt
  rw [List.getElem_append_right (by simp; omega)]
  simp
  congr 1
  omega
theorem handAt_succ {A : List (Int × List Int)} {h : Int} {j : Nat} (hj : j < A.length) : handAt A h (j + 1) = (handAt A h j).set j (lessR A[j] h) := by
  unfold handAt
  rw [List.set_append_right _ _ (by simp; omega), List.take_succ_eq_append_getElem hj, List.map_append, List.drop_eq_getElem_cons hj]
  have : j - ((A.take j).map (lessR · h)).length = 0 := by simp; omega
  rw [this, List.set_cons_zero]
  simp
theorem lessR_no {s : Int × List Int} {h : Int} (hn : h ∉ s.2) : lessR s h = s := by
  unfold lessR
  have : s.2.filter (fun y => !decide (y = h)) = s.2 := List.filter_eq_self.2 fun y hy => by
    have : y ≠ h := fun e => hn (e ▸ hy)
    simp [this]
  rw [this]
theorem flushAt_succ {Es : List (List (Key × Int))} {A : List (Int × List Int)} {h : Int} {j : Nat} (hj : j < A.length) : flushAt Es A h (j + 1) = if h ∈ A[j].2 then flushEs (flushAt Es A h j) h A[j].1 else flushAt Es A h j := by
  unfold flushAt
  rw [List.take_succ_eq_append_getElem hj, List.foldl_append]
  rfl
section
variable {w0 w : World} {Im : Mem} {Fr L : List (Nat × Obj)} {x : RefG} {R : Ending → World → Prop}

theorem reads_cells {a : Option Addr} {ts : List Int} {A : List (Nat × Obj)} (hts : Reads w0 Im a ts Fr) (h : Own w0 Im w (A ++ Fr)) (hne : ts ≠ []) : ∃ a', a = some a' ∧ CellsAt w a' (ts.flatMap intC) := by
  have h0 : 0 < ts.length := List.length_pos_iff.2 hne
  obtain ⟨b, o, e1, e2⟩ := hts w A h 0 ts[0] (List.getElem?_eq_getElem h0)
  refine ⟨_, e1, fun j v hj => ?_⟩
  rw [add_none]
  have e3 : ts.flatMap intC = i64s ts := i64s_flat ts
  rw [e3] at hj
  simp only [i64s, List.getElem?_map] at hj
  cases hc : ts[j]? with
  | none => rw [hc] at hj; cases hj
  | some y =>
    rw [hc] at hj
    obtain ⟨b', o', e4, e5⟩ := hts w A h j y hc
    rw [e1] at e4
    simp only [Option.some.injEq, Addr.mk.injEq] at e4
    obtain ⟨rfl, rfl, _⟩ := e4
    rw [e5]
    simpa using hj
/-- Start -/
theorem s28 {space : Int} {a : Option Addr} {c : Nat} {ts : List Int} (h : Own w0 Im w (x.L ++ Fr)) (hx : RefOk x) (hts : Reads w0 Im a ts Fr) (hlen : ts.length ≤ 4611686018427387904) (hA : x.A.length < 1099511627776)
    (hbad : ¬ okTs x.H.length ts → ∀ w', Own w0 Im w' (x.L ++ Fr) → R (.returned (.tuple #[.int .i64 0, .int .i64 1])) w')
    (hR : ∀ w' x', okTs x.H.length ts → Own w0 Im w' (x'.L ++ Fr) → RefOk x' → RTurn x x' x.Es (x.sh ++ [(space, ts)]) → R (.returned (.tuple #[.int .i64 (x.A.length + 1), .int .i64 0])) w') :
    Calls Try.prog 28 #[.pointer (some ⟨x.rb, 0, none⟩), .int .i64 space, .slice a ts.length c] w R := by
  apply vc28
  unfold Vc28
  refine ⟨fun w' => okTs x.H.length ts ∧ Own w0 Im w' (x.L ++ Fr), ?_, ?_⟩
  · rintro w4 ⟨hok, h4⟩
    have hd := h4.drew
    have htl := okTs_len hok
    have hhi := hx.hi
    refine ⟨_, _, rfl, _, _, _, hd.cell 0 rfl _, _, _, _, hd.cell 0 rfl _, fun r9 e9 b10 w11 e10 e11 => ?_⟩
    rw [wrap_id (by omega) (by omega)] at e9
    subst e9
    have h11 := hd.alloc' e10 e11
    refine ⟨h11.cell 1 rfl _, h11.cell 1 rfl _, ?_⟩
    obtain ⟨v', w12, hr, h12, hv'⟩ := vecE_append (n := 1) (P := Try.prog) (t := 23) (ty := 23) (e := 3) (bytes := 8) (z := .int .i64 0) Try.underlying23 Try.type3 rfl rfl rfl rfl intC_len intC_one (x := some (b10, 0, [])) (xs := ([] : List Int)) (L := x.L ++ Fr) h11
      ⟨rfl, Nat.le_refl _, Nat.zero_le _, rfl, rfl⟩ (a := a) (c := c) (ys := ts) (fun hne => reads_cells (A := (b10, .cells (#[] : Array Value) 3 (0, 0)) :: x.L) hts h11 hne) (by simp only [List.length_nil]; omega) (by simp only [List.length_nil, maxLen]; omega)
    simp only [List.length_nil, Nat.zero_add, List.nil_append] at hr hv'
    refine ⟨_, _, _, w12, hr, ?_⟩
    have h12x := h12.sub (List.sublist_append_right (vecL 3 v') (x.L ++ Fr))
    refine ⟨h12x.cell 0 rfl _, h12x.cell 0 rfl _, fun b14 w15 e14 e15 => ?_⟩
    have h15 := h12.alloc' e14 e15
    have h15x := (h15.tail rfl).sub (List.sublist_append_right (vecL 3 v') (x.L ++ Fr))
    refine ⟨h15x.cell 0 rfl _, h15x.cell 0 rfl _, ?_⟩
    obtain ⟨s, hs⟩ : ∃ s : RS, s = ⟨v', x.A.length + 1, space, ts⟩ := ⟨_, rfl⟩
    have p1 : ((b14, Obj.cells (rsC s).toArray 84 (0, 0)) :: (vecL 3 v' ++ (x.L ++ Fr))).Perm (vecL 84 x.av ++ ((x.rb, .cells x.cells 71 (0, 0)) :: (b14, Obj.cells (rsC s).toArray 84 (0, 0)) :: (vecL 3 v' ++ (vecL 73 x.hv ++ (x.H.flatMap RH.L ++ (x.A.flatMap RS.L ++ Fr)))))) := by
      refine by_count fun a => ?_
      simp only [RefG.L, List.count_append, List.cons_append, List.count_cons, List.count_nil]
      omega
    have e15c : Obj.cells (rsC s).toArray 84 (0, 0) = Obj.cells #[.int .i64 ((x.A.length : Int) + 1), .int .i64 space, .slice (vecA v') ts.length (vecC v')] 84 (0, 0) := by rw [hs]; rfl
    rw [← e15c] at h15
    obtain ⟨av', w16, hr2, h16, hav'⟩ := vecE_append (n := 3) (P := Try.prog) (t := 69) (ty := 69) (e := 84) (bytes := 40) (z := .agg #[.int .i64 0, .int .i64 0, .slice none 0 0]) Try.underlying69 Try.type84 rfl rfl rfl rfl rsC_len rsC_one (h15.perm p1) hx.av (a := some ⟨b14, 0, none⟩) (c := 1) (ys := [s])
      (fun _ => ⟨_, rfl, h15.cellsAt 0 rfl (fun q u hq => by rw [Nat.zero_add, List.getElem?_toArray]; exact (show (rsC s)[q]? = some u from by simpa using hq))⟩) (by simp only [List.length_singleton]; omega) (by simp only [List.length_singleton, maxLen]; omega)
    refine ⟨_, _, _, w16, hr2, ?_⟩
    have h16p := h16.perm (List.perm_middle)
    refine ⟨h16p.cell 0 rfl _, by rw [h16p.cell 0 rfl]; rfl, h16p.frozen 0 rfl _, fun w18 e18 => ?_⟩
    have h18 := h16p.set 0 rfl (0 + 2) (.slice (vecA av') (x.A.length + [s].length) (vecC av'))
    rw [← e18] at h18
    refine ⟨_, _, _, h18.cell 0 rfl _, ?_⟩
    have hgoal := hR w18 { x with av := av', A := x.A ++ [s] } hok ?_ ?_ ⟨rfl, rfl, rfl, by simp [RefG.sh, hs]⟩
    · exact hgoal
    · have hc : (#[.int .i64 x.size, .slice (vecA x.hv) x.H.length (vecC x.hv), .slice (vecA av') (x.A.length + [s].length) (vecC av')] : Array Value) = ({ x with av := av', A := x.A ++ [s] } : RefG).cells := by
        unfold RefG.cells
        simp only [List.length_append]
      have h18' : Own w0 Im w18 ((x.rb, .cells ({ x with av := av', A := x.A ++ [s] } : RefG).cells 71 (0, 0)) :: (vecL 84 av' ++ ((b14, Obj.cells (rsC s).toArray 84 (0, 0)) :: (vecL 3 v' ++ (vecL 73 x.hv ++ (x.H.flatMap RH.L ++ (x.A.flatMap RS.L ++ Fr))))))) := by
        rw [← hc]; exact h18
      refine (h18'.perm (L' := (b14, Obj.cells (rsC s).toArray 84 (0, 0)) :: (({ x with av := av', A := x.A ++ [s] } : RefG).L ++ Fr)) (by_count fun a => ?_)).tail rfl
      have e2 : s.v = v' := by rw [hs]
      simp only [RefG.L, List.flatMap_append, List.flatMap_cons, List.flatMap_nil, List.append_nil, RS.L, e2, List.count_append, List.cons_append, List.count_cons, List.count_nil]
      omega
    · refine ⟨hx.hv, hx.ev, hx.nd, hx.room, hx.hi, hx.slo, hx.shi, hav', fun y hy => ?_, fun i hi => ?_, fun y hy => ?_⟩
      · rcases List.mem_append.1 hy with hy | hy
        · exact hx.lv y hy
        · simp at hy; subst hy; rw [hs]; exact hv'
      · show (x.A ++ [s])[i].id = _
        by_cases hi2 : i < x.A.length
        · rw [List.getElem_append_left hi2]; exact hx.ids i hi2
        · have hi3 : i < (x.A ++ [s]).length := hi
          rw [List.length_append, List.length_singleton] at hi3
          have : i = x.A.length := by omega
          subst this
          simp [hs]
      · rcases List.mem_append.1 hy with hy | hy
        · exact hx.left y hy
        · simp at hy; subst hy; rw [hs]; exact hok
  · refine ⟨fun m v w' => ∃ j : Nat, m = ts.length - j ∧ v = j ∧ j ≤ ts.length ∧ okTs x.H.length (ts.take j) ∧ Own w0 Im w' (x.L ++ Fr), ⟨_, 0, rfl, rfl, by omega, ⟨by simp, by simp⟩, h⟩, ?_⟩
    rintro m v w' ⟨j, rfl, rfl, hj, hok, h'⟩
    refine ⟨fun hlt => ?_, fun hge => ?_⟩
    · have hj' : j < ts.length := by omega
      obtain ⟨b, o, ea, hc⟩ := hts w' x.L h' j ts[j] (List.getElem?_eq_getElem hj')
      refine ⟨_, _, ea, by omega, hlt, _, hc, ?_⟩
      refine s41 h' ⟨_, rfl, fun hin => ?_, fun hout => hbad (fun hk => of_decide_eq_false hout (hk.1 _ (List.getElem_mem hj'))) _ h'⟩
      have hin := of_decide_eq_true hin
      refine ⟨fun m v w2 => ∃ k : Nat, m = j - k ∧ v = k ∧ k ≤ j ∧ (∀ y ∈ ts.take k, y ≠ ts[j]) ∧ Own w0 Im w2 (x.L ++ Fr), ⟨_, 0, rfl, rfl, by omega, by simp, h'⟩, ?_⟩
      rintro m v w2 ⟨k, rfl, rfl, hk, hne, h2⟩
      refine ⟨fun hlt2 => ?_, fun hge2 r36 e36 => ?_⟩
      · have hk' : k < j := by omega
        have hkl : k < ts.length := by omega
        have hd := h2.drew
        obtain ⟨b2, o2, ea2, hc2⟩ := hts w2.drew x.L hd k ts[k] (List.getElem?_eq_getElem hkl)
        obtain ⟨b3, o3, ea3, hc3⟩ := hts w2.drew x.L hd j ts[j] (List.getElem?_eq_getElem hj')
        rw [ea] at ea2 ea3
        simp only [Option.some.injEq, Addr.mk.injEq] at ea2 ea3
        obtain ⟨rfl, rfl, _⟩ := ea2
        obtain ⟨rfl, rfl, _⟩ := ea3
        refine ⟨by omega, by omega, by omega, hlt, _, hc2, _, hc3, fun e => ?_, fun e r34 e34 => ?_⟩
        · refine hbad (fun hok2 => ?_) _ hd
          exact absurd ((List.getElem_inj hok2.2).1 e) (by omega)
        · rw [wrap_id (by omega) (by omega)] at e34
          refine ⟨_, by omega, k + 1, rfl, by omega, by omega, fun y hy => ?_, hd⟩
          rw [List.take_succ_eq_append_getElem hkl, List.mem_append] at hy
          rcases hy with hy | hy
          · exact hne y hy
          · simp at hy; subst hy; exact e
      · have : k = j := by omega
        subst this
        rw [wrap_id (by omega) (by omega)] at e36
        refine ⟨_, by omega, k + 1, rfl, by omega, by omega, ⟨fun y hy => ?_, ?_⟩, h2⟩
        · rw [List.take_succ_eq_append_getElem hj', List.mem_append] at hy
          rcases hy with hy | hy
          · exact hok.1 y hy
          · simp at hy; subst hy; exact hin
        · rw [List.take_succ_eq_append_getElem hj', List.nodup_append]
          refine ⟨hok.2, by simp, fun a ha b hb => ?_⟩
          simp at hb; subst hb
          exact hne a ha
    · have : j = ts.length := by omega
      rw [this, List.take_length] at hok
      exact ⟨hok, h'⟩
/-- Handle -/
theorem s29 {i : Int} (h : Own w0 Im w (x.L ++ Fr)) (hx : RefOk x) (hA : x.A.length < 1099511627776)
    (hR : ∀ w' x', Own w0 Im w' (x'.L ++ Fr) → RefOk x' → RTurn x x' (flushAt x.Es x.sh i x.A.length) (handAt x.sh i x.A.length) → R (.returned (.int .i64 ((pendAt x.sh i x.A.length).length : Nat))) w') :
    Calls Try.prog 29 #[.pointer (some ⟨x.rb, 0, none⟩), .int .i64 i] w R := by
  apply vc29
  unfold Vc29
  refine ⟨fun m v3 v4 w' => ∃ (j : Nat) (x1 : RefG), m = x.A.length - j ∧ v4 = j ∧ j ≤ x.A.length ∧ v3 = ((pendAt x.sh i j).length : Nat) ∧ Own w0 Im w' (x1.L ++ Fr) ∧ RefOk x1 ∧ RTurn x x1 (flushAt x.Es x.sh i j) (handAt x.sh i j),
    ⟨_, 0, x, rfl, rfl, by omega, rfl, h, hx, by simpa [flushAt, handAt] using RTurn.refl x⟩, ?_⟩
  rintro m v3 v4 w' ⟨j, x1, rfl, rfl, hj, rfl, h', hx1, ht1⟩
  have hAl : x1.A.length = x.A.length := by rw [← Rsh_len, ht1.sh, handAt_len, Rsh_len]
  refine ⟨_, _, by rw [← ht1.rb], _, _, _, h'.cell 0 rfl _, fun hlt => ?_, fun hge => ?_⟩
  · have hj' : j < x.A.length := by omega
    have hj1 : j < x1.A.length := by omega
    have hjs : j < x.sh.length := by rw [Rsh_len]; exact hj'
    obtain ⟨g, eg, hc⟩ := RefG.shAt h' hx1 hj1
    have hll := okTs_len (hx1.left _ (List.getElem_mem hj1))
    have := hx1.hi
    have hsame : (x1.A[j].sp, x1.A[j].left) = x.sh[j] := by
      rw [← sh_at hj1]
      simp only [ht1.sh]
      exact handAt_at hjs
    have hsp : x1.A[j].sp = x.sh[j].1 := congrArg (·.1) hsame
    have hlf : x1.A[j].left = x.sh[j].2 := congrArg (·.2) hsame
    have hw : waitR x.sh i j = decide (i ∈ x1.A[j].left) := by
      unfold waitR
      rw [hlf, List.getD_eq_getElem?_getD, List.getElem?_eq_getElem hjs]; rfl
    have hpl := pendAt_len x.sh i j
    refine ⟨_, _, _, h'.cell 0 rfl _, _, _, eg, by omega, hlt, _, _, _, hc 2 (by omega), ?_⟩
    refine s42 (fun q hq => RefG.leftAt h' hx1 hj1 hq) (by omega) ⟨_, rfl, fun hy r17 e17 => ?_, fun hn r63 e63 => ?_⟩
    · rw [← hw] at hy
      rw [wrap_id (by omega) (by omega)] at e17
      subst e17
      refine ⟨_, _, _, h'.cell 0 rfl _, _, _, eg, by omega, hlt, _, hc 1 (by omega), ?_⟩
      refine s27 h' hx1 fun w23 x2 h23 hx2 ht2 => ⟨_, rfl, ?_⟩
      have hA2 : x2.A.length = x.A.length := by rw [← Rsh_len, ht2.sh, Rsh_len, hAl]
      have hj2 : j < x2.A.length := by omega
      have hsame2 : (x2.A[j].sp, x2.A[j].left) = x.sh[j] := by
        rw [← sh_at hj2]
        simp only [ht2.sh]
        rw [sh_at hj1]; exact hsame
      have hsp2 : x2.A[j].sp = x.sh[j].1 := congrArg (·.1) hsame2
      have hlf2 : x2.A[j].left = x.sh[j].2 := congrArg (·.2) hsame2
      have hll2 := okTs_len (hx2.left _ (List.getElem_mem hj2))
      have := hx2.hi
      have hmemi : i ∈ x.sh[j].2 := by rw [← hlf]; rw [hw] at hy; exact of_decide_eq_true hy
      generalize hLL : x2.A[j].left = l at *
      refine ⟨fun a k c w' => ∃ v, a = vecA v ∧ k = (l.filter fun y => !decide (y = i)).length ∧ c = vecC v ∧ Own w0 Im w' (vecL 3 v ++ (x2.L ++ Fr)) ∧ VecE intC 1 v (l.filter fun y => !decide (y = i)), ?_, ?_⟩
      · rintro _ _ _ w26 ⟨v, rfl, rfl, rfl, h26, hv⟩
        have hs := h26.sub (List.sublist_append_right (vecL 3 v) (x2.L ++ Fr))
        have hokl := hx2.left _ (List.getElem_mem hj2)
        rw [hLL] at hokl
        obtain ⟨g2, eg2, c1, c2, x3, h30, hx3, ht3⟩ := RefG.setA h26 hx2 hj2 hv ⟨fun y hy => hokl.1 y (List.mem_filter.1 hy).1, hokl.2.sublist List.filter_sublist⟩
        refine ⟨_, _, _, (by rw [← ht2.rb]; exact hs.cell 0 rfl _), _, _, eg2, by omega, by omega, c1, c2, fun w30 e30 r31 e31 => ?_⟩
        rw [wrap_id (by omega) (by omega)] at e31
        have e1 : flushAt x.Es x.sh i (j + 1) = x3.Es := by rw [ht3.Es, ht2.Es, ht1.Es, flushAt_succ hjs, if_pos hmemi, hsp]
        have e2 : handAt x.sh i (j + 1) = x3.sh := by
          rw [ht3.sh, ht2.sh, ht1.sh, handAt_succ hjs]
          unfold lessR
          rw [hsp2, hlf2]
        refine ⟨_, by omega, j + 1, x3, rfl, by omega, by omega, by rw [pendAt_yes hy]; simp, by rw [e30]; exact h30, hx3, ⟨ht3.rb.trans (ht2.rb.trans ht1.rb), ht3.size.trans (ht2.size.trans ht1.size), e1.symm, e2.symm⟩⟩
      · refine ⟨fun m a k c v34 w' => ∃ (q : Nat) (v : VecB), m = l.length - q ∧ v34 = q ∧ q ≤ l.length ∧ a = vecA v ∧ k = ((l.take q).filter fun y => !decide (y = i)).length ∧ c = vecC v ∧ Own w0 Im w' (vecL 3 v ++ (x2.L ++ Fr)) ∧ VecE intC 1 v ((l.take q).filter fun y => !decide (y = i)),
          ⟨_, 0, none, rfl, rfl, by omega, rfl, rfl, rfl, h23, VecE.nil⟩, ?_⟩
        rintro m a k c v34 w36 ⟨q, v, rfl, rfl, hq, rfl, rfl, rfl, h36, hv⟩
        have hs := h36.sub (List.sublist_append_right (vecL 3 v) (x2.L ++ Fr))
        obtain ⟨g2, eg2, hc2⟩ := RefG.shAt hs hx2 hj2
        have hrb : x1.rb = x2.rb := ht2.rb.symm
        have hcell : w36.cell? ⟨x1.rb, 0 + 2, none⟩ = some (.slice (vecA x2.av) x2.A.length (vecC x2.av)) := by rw [hrb]; exact hs.cell 0 rfl _
        have hc22 := hc2 2 (by omega)
        have hval : (rsC x2.A[j])[2]? = some (.slice (vecA x2.A[j].v) l.length (vecC x2.A[j].v)) := by rw [← hLL]; rfl
        rw [hval] at hc22
        have hjj : ((j : Nat) : Int) < ((x2.A.length : Nat) : Int) := by omega
        refine ⟨_, _, _, hcell, _, _, eg2, by omega, hjj, _, _, _, hc22, fun hlt2 => ?_, fun hge2 => ?_⟩
        · have hq' : q < l.length := by omega
          have hq2 : q < x2.A[j].left.length := by rw [hLL]; exact hq'
          obtain ⟨g3, eg3, hc3⟩ := RefG.leftAt hs hx2 hj2 hq2
          have hval3 : x2.A[j].left[q] = l[q] := by simp only [hLL]
          rw [hval3] at hc3
          refine ⟨_, _, _, hcell, _, _, eg2, by omega, hjj, _, _, _, hc22, _, _, eg3, by omega, hlt2, _, hc3, fun hne => ?_, fun heq r61 e61 => ?_⟩
          · refine ⟨_, _, _, hcell, _, _, eg2, by omega, hjj, _, _, _, hc22, _, _, eg3, by omega, hlt2, _, hc3, fun b55 w56 e55 e56 => ?_⟩
            have h56 := h36.alloc' e55 e56
            have hfl := List.length_filter_le (fun y => !decide (y = i)) (l.take q)
            rw [List.length_take] at hfl
            have hk := kept_no (p := fun y : Int => decide (y = i)) hq' (by simpa using hne)
            obtain ⟨v', w57, hr, h57, hv'⟩ := vecE_append (n := 1) (P := Try.prog) (t := 23) (ty := 23) (e := 3) (bytes := 8) (z := .int .i64 0) Try.underlying23 Try.type3 rfl rfl rfl rfl intC_len intC_one (h56.perm (perm_l [_] (vecL 3 v) _)) hv (a := some ⟨b55, 0, none⟩) (c := 1) (ys := [l[q]])
              (fun _ => ⟨_, rfl, h56.cellsAt 0 rfl (fun q' u hq' => by rw [Nat.zero_add, List.getElem?_toArray]; exact (show (intC l[q])[q']? = some u from by simpa using hq'))⟩) (by simp only [List.length_singleton]; omega) (by simp only [List.length_singleton, maxLen]; omega)
            refine ⟨_, _, _, w57, hr, fun r59 e59 => ?_⟩
            rw [wrap_id (by omega) (by omega)] at e59
            rw [← hk] at hv'
            exact ⟨_, by omega, q + 1, v', rfl, by omega, by omega, rfl, by rw [hk]; simp, rfl, h57.sub (List.Sublist.append_left (List.sublist_append_right _ _) _), hv'⟩
          · rw [wrap_id (by omega) (by omega)] at e61
            have hk := kept_yes (p := fun y : Int => decide (y = i)) hq' (by simpa using heq)
            exact ⟨_, by omega, q + 1, v, rfl, by omega, by omega, rfl, by rw [hk], rfl, h36, by rw [hk]; exact hv⟩
        · have hq' : q = l.length := by omega
          rw [hq', List.take_length] at hv
          exact ⟨v, rfl, by rw [hq', List.take_length], rfl, h36, hv⟩
    · rw [← hw] at hn
      rw [wrap_id (by omega) (by omega)] at e63
      have hmemi : i ∉ x.sh[j].2 := by rw [← hlf]; rw [hw] at hn; exact of_decide_eq_false hn
      refine ⟨_, by omega, j + 1, x1, rfl, by omega, by omega, by rw [pendAt_no hn], h', hx1, ⟨ht1.rb, ht1.size, ?_, ?_⟩⟩
      · rw [ht1.Es, flushAt_succ hjs, if_neg hmemi]
      · rw [ht1.sh, handAt_succ hjs, lessR_no hmemi]
        exact (set_self (by rw [List.getElem?_eq_getElem (by rw [handAt_len]; exact hjs), handAt_at hjs])).symm
  · have hj' : j = x.A.length := by omega
    subst hj'
    exact hR w' x1 h' hx1 ht1
end
end Go.Proofs.Ytdhdbdpemejpjaa
