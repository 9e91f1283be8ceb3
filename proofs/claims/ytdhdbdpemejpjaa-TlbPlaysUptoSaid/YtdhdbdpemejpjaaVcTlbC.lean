/- A part of the proof: lemmas. -/
import Derived.Test.YtdhdbdpemejpjaaVcTlbSort
namespace Go.Proofs.Ytdhdbdpemejpjaa
open Go Go.Vc
set_option maxRecDepth 100000
set_option linter.unusedVariables false

/-- All but one hart. -/
def Rest (t : TlbG) (i : Nat) (Fr : List (Nat × Obj)) : List (Nat × Obj) := (t.H.eraseIdx i).flatMap HartG.L ++ ([(t.tb, .cells t.cells 56 (0, 0)), (t.ob, mapObj (Vc.encI .i64) t.OM t.oclk)] ++ Fr)
def hslice (x : HartG) : Value := .slice (vecA x.ov) x.E.length (vecC x.ov)
/-- What is kept once k is. -/
def fillE (E : List (Key × Int)) (size : Int) (k : Key) (e : Int) : List (Key × Int) :=
  if k ∈ E.map (·.1) then E.map fun x => if x.1 = k then (k, e) else x else (if size ≤ E.length then E.tail else E) ++ [(k, e)]
theorem lookE_none {E : List (Key × Int)} {k : Key} : lookE E k = none ↔ k ∉ E.map (·.1) := by
  unfold lookE
  rw [Option.map_eq_none_iff, List.find?_eq_none]
  simp only [decide_eq_true_eq, List.mem_map, not_exists, not_and]
theorem lookE_cons {x : Key × Int} {E : List (Key × Int)} {k : Key} : lookE (x :: E) k = if x.1 = k then some x.2 else lookE E k := by
  unfold lookE
  rw [List.find?_cons]
  by_cases h : x.1 = k <;> simp [h]
theorem lookE_snoc {E : List (Key × Int)} {k k' : Key} {e : Int} (h : k ∉ E.map (·.1)) : lookE (E ++ [(k, e)]) k' = if k' = k then some e else lookE E k' := by
  induction E with
  | nil =>
    simp only [List.nil_append, lookE_cons]
    by_cases hk : k = k'
    · simp [hk]
    · rw [if_neg hk, if_neg (fun h => hk h.symm)]
  | cons x t ih =>
    simp only [List.map_cons, List.mem_cons, not_or] at h
    rw [List.cons_append, lookE_cons, ih h.2, lookE_cons]
    by_cases h1 : x.1 = k'
    · rw [if_pos h1, if_pos h1, if_neg (fun h2 => h.1 (h2.symm.trans h1.symm))]
    · rw [if_neg h1, if_neg h1]
theorem lookE_map {E : List (Key × Int)} {k k' : Key} {e : Int} : lookE (E.map fun x => if x.1 = k then (k, e) else x) k' = if k' = k ∧ k ∈ E.map (·.1) then some e else lookE E k' := by
  induction E with
  | nil => simp [lookE]
  | cons x t ih =>
    rw [List.map_cons, lookE_cons, lookE_cons, ih]
    by_cases h1 : x.1 = k
    · by_cases h2 : k' = k
      · subst h2; simp [h1]
      · have : ¬ k = k' := fun h => h2 h.symm
        simp [h1, h2, this]
    · by_cases h2 : k' = k
      · subst h2
        have : ¬ k' = x.1 := fun h => h1 h.symm
        simp only [if_neg h1, List.map_cons, List.mem_cons, this, false_or]
      · simp [h1, h2]
theorem lookE_tail {E : List (Key × Int)} {x : Key × Int} (hn : ((x :: E).map (·.1)).Nodup) {k : Key} : lookE E k = if k = x.1 then none else lookE (x :: E) k := by
  simp only [List.map_cons, List.nodup_cons] at hn
  rw [lookE_cons]
  by_cases h : k = x.1
  · rw [if_pos h, h]; exact lookE_none.2 hn.1
  · rw [if_neg h, if_neg (fun e => h e.symm)]
theorem fill_keys {E : List (Key × Int)} {size : Int} {k : Key} {e : Int} (h : k ∈ E.map (·.1)) : (fillE E size k e).map (·.1) = E.map (·.1) := by
  unfold fillE
  rw [if_pos h, List.map_map]
  refine List.map_congr_left fun x _ => ?_
  simp only [Function.comp]
  by_cases hk : x.1 = k <;> simp [hk]

section
variable {w0 w : World} {Im : Mem} {Fr L : List (Nat × Obj)} {t : TlbG} {R : Ending → World → Prop}

theorem open_perm {i : Nat} {g c : Nat} (v : List Value) (H : List HartG) (x : HartG) (hp : (H.flatMap HartG.L).Perm (x.L ++ (t.H.eraseIdx i).flatMap HartG.L)) :
    ((t.tb, Obj.cells t.cells 56 (0, 0)) :: (t.ob, mapObj (Vc.encI .i64) t.OM t.oclk) :: (vecL 59 (some (g, c, v)) ++ H.flatMap HartG.L) ++ Fr).Perm ((g, .cells v.toArray 59 (0, 0)) :: (x.L ++ Rest t i Fr)) := by
  have q1 := perm_l [(t.tb, Obj.cells t.cells 56 (0, 0)), (t.ob, mapObj (Vc.encI .i64) t.OM t.oclk)] (vecL 59 (some (g, c, v)) ++ H.flatMap HartG.L) Fr
  have e1 : ((t.tb, Obj.cells t.cells 56 (0, 0)) :: (t.ob, mapObj (Vc.encI .i64) t.OM t.oclk) :: (vecL 59 (some (g, c, v)) ++ H.flatMap HartG.L) ++ Fr) = [(t.tb, Obj.cells t.cells 56 (0, 0)), (t.ob, mapObj (Vc.encI .i64) t.OM t.oclk)] ++ ((vecL 59 (some (g, c, v)) ++ H.flatMap HartG.L) ++ Fr) := rfl
  rw [e1]
  refine q1.trans ?_
  have e2 : (vecL 59 (some (g, c, v)) ++ H.flatMap HartG.L) ++ ([(t.tb, Obj.cells t.cells 56 (0, 0)), (t.ob, mapObj (Vc.encI .i64) t.OM t.oclk)] ++ Fr) = (g, .cells v.toArray 59 (0, 0)) :: (H.flatMap HartG.L ++ ([(t.tb, Obj.cells t.cells 56 (0, 0)), (t.ob, mapObj (Vc.encI .i64) t.OM t.oclk)] ++ Fr)) := by simp [vecL]
  rw [e2]
  refine List.Perm.cons _ ?_
  have := hp.append_right ([(t.tb, Obj.cells t.cells 56 (0, 0)), (t.ob, mapObj (Vc.encI .i64) t.OM t.oclk)] ++ Fr)
  rw [List.append_assoc] at this
  exact this
theorem open_at (h : Own w0 Im w (t.L ++ Fr)) (ht : TlbOk t) {i : Nat} (hi : i < t.H.length) :
    ∃ g c cur, t.hv = some (g, c, cur) ∧ Own w0 Im w ((g, .cells cur.toArray 59 (0, 0)) :: (t.H[i].L ++ Rest t i Fr)) ∧ cur.toArray[i * 2]? = some (.map (some t.H[i].mb)) ∧ cur.toArray[i * 2 + 1]? = some (hslice t.H[i]) ∧ cur.toArray.setIfInBounds (i * 2 + 1) (hslice t.H[i]) = cur.toArray := by
  obtain ⟨g, c, cur, hhv⟩ := ht.hv.isSome (by omega)
  have hcell : ∀ k, k < 2 → cur.toArray[i * 2 + k]? = (hartC t.H[i])[k]? := by
    intro k hk
    obtain ⟨b, e1, e2⟩ := vecE_cell (e := 59) hartC_len h (fun p hp => by simp [TlbG.L, hp]) ht.hv hi
    rw [hhv] at e1
    have : g = b := by have : (some (⟨g, 0, none⟩ : Addr)) = some ⟨b, 0, none⟩ := e1; simpa using this
    subst this
    rw [← e2 k hk, cell_of (h.mem (b := g) (o := .cells cur.toArray 59 (0, 0)) (by simp [TlbG.L, hhv, vecL]))]
  have hL : t.L = (t.tb, Obj.cells t.cells 56 (0, 0)) :: (t.ob, mapObj (Vc.encI .i64) t.OM t.oclk) :: (vecL 59 (some (g, c, cur)) ++ t.H.flatMap HartG.L) := by rw [← hhv]; rfl
  rw [hL] at h
  have h1 : cur.toArray[i * 2 + 1]? = some (hslice t.H[i]) := hcell 1 (by omega)
  refine ⟨g, c, cur, hhv, h.perm (open_perm cur t.H t.H[i] (perm_at hi)), hcell 0 (by omega), h1, ?_⟩
  rw [List.setIfInBounds_toArray]
  congr 1
  exact set_self (by simpa using h1)
theorem close_at (ht : TlbOk t) {i : Nat} (hi : i < t.H.length) {g c : Nat} {cur : List Value} (hhv : t.hv = some (g, c, cur)) {x' : HartG} (hx' : HartOk x') (hmb : x'.mb = t.H[i].mb) (hroom : (x'.E.length : Int) ≤ t.size)
    (h' : Own w0 Im w ((g, .cells (cur.toArray.setIfInBounds (i * 2 + 1) (hslice x')) 59 (0, 0)) :: (x'.L ++ Rest t i Fr))) :
    ∃ t', Own w0 Im w (t'.L ++ Fr) ∧ TlbOk t' ∧ Turn t t' (t.Es.set i x'.E) t.begun t.sh := by
  have hv := ht.hv
  rw [hhv] at hv
  have hset : hartC x' = (hartC t.H[i]).set 1 (hslice x') := by
    unfold hartC hslice
    rw [hmb]; rfl
  have hv' := vecE_cellset hartC_len hv hi (k := 1) (by omega) hset
  have hEs' : ({ t with hv := some (g, c, cur.set (i * 2 + 1) (hslice x')), H := t.H.set i x' } : TlbG).Es = t.Es.set i x'.E := by
    unfold TlbG.Es
    rw [List.map_set]
  have hcells : ({ t with hv := some (g, c, cur.set (i * 2 + 1) (hslice x')), H := t.H.set i x' } : TlbG).cells = t.cells := by
    unfold TlbG.cells
    rw [hhv]
    simp [vecA, vecC]
  refine ⟨{ t with hv := some (g, c, cur.set (i * 2 + 1) (hslice x')), H := t.H.set i x' }, ?_, ?_, ⟨rfl, rfl, hEs', rfl, rfl⟩⟩
  · rw [List.setIfInBounds_toArray] at h'
    have := h'.perm (open_perm (c := c) _ (t.H.set i x') x' (perm_set hi x')).symm
    unfold TlbG.L
    rw [hcells]
    exact this
  · have hmem : ∀ x ∈ t.H.set i x', x = x' ∨ x ∈ t.H := fun x hx => by
      rcases List.mem_or_eq_of_mem_set hx with h | h
      · exact .inr h
      · exact .inl h
    refine ⟨hv', fun x hx => ?_, fun x hx => ?_, by show 1 ≤ (t.H.set i x').length; simpa using ht.lo, by show (t.H.set i x').length ≤ 8; simpa using ht.hi, ht.slo, ht.shi, ht.omnd, ht.oborn, ht.omap, ht.dom, ht.blo, ht.bhi⟩
    · rcases hmem x hx with rfl | hx
      · exact hx'
      · exact ht.ok x hx
    · rcases hmem x hx with rfl | hx
      · exact hroom
      · exact ht.room x hx

theorem keyAt {b : Nat} {k : Key} {w' : World} {l : List (Nat × Obj)} (h : Own w0 Im w' ((b, .cells (keyC k).toArray 31 (0, 0)) :: l)) : CellsAt w' ⟨b, 0, none⟩ (keyC k) :=
  h.cellsAt 0 rfl (fun j v hj => by rw [Nat.zero_add, List.getElem?_toArray]; exact hj)

/-- (*Tlb).Fill -/
theorem s9 {h : Int} {k : Key} {entry : Int} (ho : Own w0 Im w (t.L ++ Fr)) (ht : TlbOk t)
    (hno : ¬ (0 ≤ h ∧ h < t.Es.length) → ∀ w', Own w0 Im w' (t.L ++ Fr) → R (.returned (.int .i64 1)) w')
    (hR : ∀ w' t', 0 ≤ h → h < t.Es.length → Own w0 Im w' (t'.L ++ Fr) → TlbOk t' → Turn t t' (t.Es.set h.toNat (fillE (hartE t.Es h) t.size k entry)) t.begun t.sh → R (.returned (.int .i64 0)) w') :
    Calls Try.prog 9 #[.pointer (some ⟨t.tb, 0, none⟩), .int .i64 h, .agg #[.int .i64 k.1, .int .i64 k.2], .int .u32 entry] w R := by
  apply vc9
  unfold Vc9
  intro b6 w7 e6 e7
  have h7 := ho.alloc' e6 e7
  refine ⟨fun e => (by cases e), fun _ => ?_⟩
  refine s20 (h7.tail rfl) (fun hn => ⟨_, rfl, fun e => (by cases e), fun _ => hno hn w7 (h7.tail rfl)⟩) fun h0 h1 => ⟨_, rfl, fun _ => ?_, fun e => (by cases e)⟩
  obtain ⟨hl, he⟩ := hartE_at h0 h1
  rw [Es_len] at hl
  have hEs : hartE t.Es h = t.H[h.toNat].E := by rw [he]; simp [TlbG.Es]
  rw [hEs] at hR
  have hok := ht.ok _ (List.getElem_mem hl)
  have hrm := ht.room _ (List.getElem_mem hl)
  have hslo := ht.slo
  have hshi := ht.shi
  have h7p := h7.perm (List.perm_middle (l₁ := t.L) (l₂ := Fr) (a := (b6, Obj.cells (keyC k).toArray 31 (0, 0)))).symm
  obtain ⟨g, c, cur, hhv, h7o, c0, c1, hself⟩ := open_at h7p ht hl
  have hsz : h.toNat * 2 + 1 < cur.toArray.size := (Array.getElem?_eq_some_iff.1 c1).1
  let x0 := t.H[h.toNat]
  have hx0 : t.H[h.toNat] = x0 := rfl
  rw [hx0] at h7o hself c0 c1 hok hrm hR hEs
  have hea : vecA t.hv = some ⟨g, 0, none⟩ := by rw [hhv]; rfl
  -- the key's block at the head
  have pk : ∀ (cs : Array Value) (x : HartG), ((g, Obj.cells cs 59 (0, 0)) :: (x.L ++ Rest t h.toNat ((b6, Obj.cells (keyC k).toArray 31 (0, 0)) :: Fr))).Perm ((b6, Obj.cells (keyC k).toArray 31 (0, 0)) :: (g, Obj.cells cs 59 (0, 0)) :: (x.L ++ Rest t h.toNat Fr)) := by
    intro cs x
    have : (g, Obj.cells cs 59 (0, 0)) :: (x.L ++ Rest t h.toNat ((b6, Obj.cells (keyC k).toArray 31 (0, 0)) :: Fr)) = ((g, Obj.cells cs 59 (0, 0)) :: (x.L ++ ((t.H.eraseIdx h.toNat).flatMap HartG.L ++ [(t.tb, .cells t.cells 56 (0, 0)), (t.ob, mapObj (Vc.encI .i64) t.OM t.oclk)]))) ++ (b6, Obj.cells (keyC k).toArray 31 (0, 0)) :: Fr := by
      simp [Rest]
    rw [this]
    refine List.perm_middle.trans ?_
    have e2 : ((g, Obj.cells cs 59 (0, 0)) :: (x.L ++ ((t.H.eraseIdx h.toNat).flatMap HartG.L ++ [(t.tb, .cells t.cells 56 (0, 0)), (t.ob, mapObj (Vc.encI .i64) t.OM t.oclk)]))) ++ Fr = (g, Obj.cells cs 59 (0, 0)) :: (x.L ++ Rest t h.toNat Fr) := by simp [Rest]
    rw [e2]
  have h9 := h7o.perm (pk _ _)
  -- what is read of the hart
  have rM : ∀ {w' : World} {v : Value} {l : List (Nat × Obj)}, Own w0 Im w' ((b6, Obj.cells (keyC k).toArray 31 (0, 0)) :: (g, Obj.cells (cur.toArray.setIfInBounds (h.toNat * 2 + 1) v) 59 (0, 0)) :: l) → w'.cell? ⟨g, h.toNat * 2, none⟩ = some (.map (some x0.mb)) := fun {w' v l} h => by
    rw [h.cell 1 rfl, Array.getElem?_setIfInBounds_ne (by omega)]; exact c0
  have rS : ∀ {w' : World} {v : Value} {l : List (Nat × Obj)}, Own w0 Im w' ((b6, Obj.cells (keyC k).toArray 31 (0, 0)) :: (g, Obj.cells (cur.toArray.setIfInBounds (h.toNat * 2 + 1) v) 59 (0, 0)) :: l) → w'.cell? ⟨g, h.toNat * 2 + 1, none⟩ = some v := fun {w' v l} h => by
    rw [h.cell 1 rfl, Array.getElem?_setIfInBounds_self_of_lt hsz]
  rw [← hself] at h9
  have hcell0 := (h7.tail rfl).cell 0 (b := t.tb) rfl 1
  refine ⟨_, _, rfl, _, _, _, hcell0, _, _, hea, h0, by rw [Es_len] at h1; exact h1, ?_⟩
  rw [Nat.zero_add]
  -- the end: the entry under its key
  refine ⟨fun w' => ∃ (x1 : HartG) (E1 : List (Key × Int)), Own w0 Im w' ((b6, Obj.cells (keyC k).toArray 31 (0, 0)) :: (g, Obj.cells (cur.toArray.setIfInBounds (h.toNat * 2 + 1) (.slice (vecA x1.ov) (E1.map (·.1)).length (vecC x1.ov))) 59 (0, 0)) :: (x1.L ++ Rest t h.toNat Fr)) ∧ x1.mb = x0.mb ∧ (x1.M.map (·.1)).Nodup ∧ Born x1.M x1.clk ∧
      E1 = fillE x0.E t.size k entry ∧ VecE keyC 2 x1.ov (E1.map (·.1)) ∧ (∀ k', k' ≠ k → aget x1.M k' = (lookE E1 k').map (Value.int .u32 ·)) ∧ lookE E1 k = some entry ∧ (E1.map (·.1)).Nodup ∧ (E1.length : Int) ≤ t.size, ?_, ?_⟩
  · rintro w16 ⟨x1, E1, h16, hmb, hmn, hbo, hE1, hov, hag, hlk, hnd, hlen⟩
    have h16 := h16.drew
    refine ⟨some x0.mb, rM h16, _, _, keyAt h16, ?_⟩
    have pM : ∀ (M : List (Ent Key)) (clk : Nat) (o : Obj), ((b6, Obj.cells (keyC k).toArray 31 (0, 0)) :: (g, o) :: (((x1.mb, mapObj keyE M clk) :: vecL 31 x1.ov) ++ Rest t h.toNat Fr)).Perm ((x1.mb, mapObj keyE M clk) :: (b6, Obj.cells (keyC k).toArray 31 (0, 0)) :: (g, o) :: (vecL 31 x1.ov ++ Rest t h.toNat Fr)) := fun M clk o => perm_l [_, _] [_] (vecL 31 x1.ov ++ Rest t h.toNat Fr)
    have h16m := h16.perm (pM x1.M x1.clk _)
    have hup := run_mapUpdate (P := Try.prog) (t := 57) Try.underlying57 keyKey hmn (h16m.get 0 rfl) k (.int .u32 entry)
    rw [hmb] at hup
    refine ⟨_, hup, ?_⟩
    have h20 := h16m.setObj 0 rfl (o' := mapObj keyE (aput x1.M x1.clk k (.int .u32 entry)).1 (aput x1.M x1.clk k (.int .u32 entry)).2)
    rw [hmb] at h20
    have h20' := (h20.perm (by have := (pM (aput x1.M x1.clk k (.int .u32 entry)).1 (aput x1.M x1.clk k (.int .u32 entry)).2 (Obj.cells (cur.toArray.setIfInBounds (h.toNat * 2 + 1) (.slice (vecA x1.ov) (E1.map (·.1)).length (vecC x1.ov))) 59 (0, 0))).symm; rw [hmb] at this; exact this)).tail rfl
    let x2 : HartG := { mb := x0.mb, M := (aput x1.M x1.clk k (.int .u32 entry)).1, clk := (aput x1.M x1.clk k (.int .u32 entry)).2, ov := x1.ov, E := E1 }
    have hx2 : HartOk x2 := ⟨hov, nodup_put hmn, hbo.put _ _, fun k' => by
      show aget (aput x1.M x1.clk k (.int .u32 entry)).1 k' = (lookE E1 k').map _
      rw [aget_put]
      by_cases e : k' = k
      · rw [if_pos e, e, hlk]; rfl
      · rw [if_neg e, hag k' e], hnd, by show E1.length ≤ 64; omega⟩
    obtain ⟨t', ht1, ht2, ht3⟩ := close_at (t := t) (Fr := Fr) ht hl hhv hx2 rfl hlen (by
      have el : (E1.map (·.1)).length = E1.length := by simp
      rw [el] at h20'
      exact h20')
    refine hR _ t' h0 h1 ht1 ht2 ?_
    have : x2.E = fillE x0.E t.size k entry := hE1
    rw [this] at ht3
    exact ht3
  · have h9d := h9.drew
    have hlm := run_lookup (P := Try.prog) (t := 57) (K := 31) (E := 32) (enc := keyE) Try.underlying57 keyKey (w := w7.drew) (b := x0.mb) (M := x0.M) (clk := x0.clk) (h9d.mem (by simp [HartG.L])) k true (z := .int .u32 0) Try.type32 rfl
    rw [hok.map] at hlm
    refine ⟨some x0.mb, rM h9d, _, _, keyAt h9d, (lookE x0.E k).getD 0, (lookE x0.E k).isSome, by cases hq : lookE x0.E k with | none => rw [hq] at hlm; exact hlm | some n => rw [hq] at hlm; exact hlm, fun hhas => ?_, fun hhas => ?_⟩
    · -- it was kept
      have hkm : k ∈ x0.E.map (·.1) := by
        refine Classical.byContradiction fun hn => ?_
        rw [lookE_none.2 hn] at hhas; cases hhas
      have hfk := fill_keys (size := t.size) (e := entry) hkm
      have hfl : (fillE x0.E t.size k entry).length = x0.E.length := by have := congrArg List.length hfk; simpa using this
      refine ⟨x0, fillE x0.E t.size k entry, ?_, rfl, hok.mnd, hok.born, rfl, by rw [hfk]; exact hok.vec, fun k' hk' => ?_, ?_, by rw [hfk]; exact hok.nd, by rw [hfl]; exact hrm⟩
      · have el : ((fillE x0.E t.size k entry).map (·.1)).length = x0.E.length := by rw [hfk]; simp
        rw [el]
        exact h9d
      · rw [hok.map]; unfold fillE; rw [if_pos hkm, lookE_map, if_neg (fun h => hk' h.1)]
      · unfold fillE; rw [if_pos hkm, lookE_map, if_pos ⟨rfl, hkm⟩]
    · -- it was not
      have hkn : k ∉ x0.E.map (·.1) := by
        refine lookE_none.1 ?_
        cases hq : lookE x0.E k with
        | none => rfl
        | some n => rw [hq] at hhas; cases hhas
      refine ⟨fun w' => ∃ x1 : HartG, Own w0 Im w' ((b6, Obj.cells (keyC k).toArray 31 (0, 0)) :: (g, Obj.cells (cur.toArray.setIfInBounds (h.toNat * 2 + 1) (hslice x1)) 59 (0, 0)) :: (x1.L ++ Rest t h.toNat Fr)) ∧ HartOk x1 ∧ x1.mb = x0.mb ∧ x1.E = (if t.size ≤ x0.E.length then x0.E.tail else x0.E) ∧ (x1.E.length : Int) < t.size, ?_, ?_⟩
      · rintro w26 ⟨x1, h26, hx1, hmb, hE1, hlt⟩
        have h26 := h26.drew
        refine ⟨_, _, _, rS h26, _, _, keyAt h26, fun b30 w31 e30 e31 => ?_⟩
        have h31 := h26.alloc' e30 e31
        have hc31 := (h31.tail rfl)
        refine ⟨rS hc31, ?_⟩
        have hl1 : (x1.E.map (·.1)).length = x1.E.length := by simp
        have hkn1 : k ∉ x1.E.map (·.1) := by
          rw [hE1]
          split
          · exact fun hm => hkn (by rw [List.map_tail] at hm; exact List.mem_of_mem_tail hm)
          · exact hkn
        have pO : ∀ (v : VecB) (o : Nat × Obj) (q : Obj), (o :: (b6, Obj.cells (keyC k).toArray 31 (0, 0)) :: (g, q) :: (((x1.mb, mapObj keyE x1.M x1.clk) :: vecL 31 v) ++ Rest t h.toNat Fr)).Perm (vecL 31 v ++ ([o, (b6, Obj.cells (keyC k).toArray 31 (0, 0)), (g, q), (x1.mb, mapObj keyE x1.M x1.clk)] ++ Rest t h.toNat Fr)) := fun v o q => perm_l [_, _, _, _] (vecL 31 v) (Rest t h.toNat Fr)
        obtain ⟨ov', w32, hr, ho2, hov⟩ := vecE_append (n := 2) (P := Try.prog) (t := 40) (ty := 40) (e := 31) (bytes := 16) (z := .agg #[.int .i64 0, .int .i64 0]) (f := keyC) (a := some ⟨b30, 0, none⟩) (c := 1) (ys := [k]) Try.underlying40 Try.type31 rfl rfl rfl rfl keyC_len keyC_one
          (h31.perm (pO x1.ov _ _)) hx1.vec (fun _ => ⟨_, rfl, h31.cellsAt 0 rfl (fun j v hj => by rw [Nat.zero_add, List.getElem?_toArray]; simpa [keyC] using hj)⟩) (by rw [hl1]; simp; omega) (by rw [hl1]; simp [maxLen]; omega)
        rw [hl1] at hr
        refine ⟨_, _, _, w32, hr, ?_⟩
        have h32 := (ho2.perm (pO ov' _ _).symm).tail rfl
        refine ⟨by rw [rS h32]; rfl, h32.frozen 1 rfl _, fun w34 e34 => ?_⟩
        have h34 := h32.set 1 rfl (h.toNat * 2 + 1) (.slice (vecA ov') (x1.E.length + [k].length) (vecC ov'))
        rw [← e34, Array.setIfInBounds_setIfInBounds] at h34
        have hfe : fillE x0.E t.size k entry = x1.E ++ [(k, entry)] := by unfold fillE; rw [if_neg hkn, hE1]
        refine ⟨{ x1 with ov := ov' }, x1.E ++ [(k, entry)], ?_, hmb, hx1.mnd, hx1.born, hfe.symm, by rw [List.map_append]; exact hov, fun k' hk' => ?_, ?_, ?_, by simp; omega⟩
        · have el : ((x1.E ++ [(k, entry)]).map (·.1)).length = x1.E.length + [k].length := by simp
          rw [el]
          exact h34
        · rw [lookE_snoc hkn1, if_neg hk']; exact hx1.map k'
        · rw [lookE_snoc hkn1, if_pos rfl]
        · rw [List.map_append]
          refine List.nodup_append.2 ⟨hx1.nd, by simp, ?_⟩
          intro x hx y hy e
          simp at hy
          exact hkn1 (by rw [← hy, ← e]; exact hx)
      · have h9d2 := h9d.drew
        refine ⟨_, _, _, rS h9d2, t.size, ?_, fun hfull => ?_, fun hfull => ?_⟩
        · rw [cell_of (h9d2.mem (b := t.tb) (o := .cells t.cells 56 (0, 0)) (by simp [Rest]))]; rfl
        · have h9d3 := h9d2.drew
          have hpos : 0 < x0.E.length := by omega
          have hpos' : 0 < (x0.E.map (·.1)).length := by simpa using hpos
          obtain ⟨gk, egk, hck⟩ := vecE_at (e := 31) keyC_len h9d3 (fun p hp => by simp [HartG.L, hp]) hok.vec (i := 0) hpos'
          refine ⟨some x0.mb, rM h9d3, _, _, _, rS h9d3, _, _, egk, by omega, by omega, ?_⟩
          obtain ⟨y, ys, hE⟩ : ∃ y ys, x0.E = y :: ys := by
            cases hE : x0.E with
            | nil => rw [hE] at hpos; simp at hpos
            | cons y ys => exact ⟨y, ys, rfl⟩
          · skip
            have hk0 : (x0.E.map (·.1))[0] = y.1 := by simp [hE]
            rw [hk0] at hck
            have pM : ∀ (M : List (Ent Key)) (clk : Nat) (o : Obj), ((b6, Obj.cells (keyC k).toArray 31 (0, 0)) :: (g, o) :: (((x0.mb, mapObj keyE M clk) :: vecL 31 x0.ov) ++ Rest t h.toNat Fr)).Perm ((x0.mb, mapObj keyE M clk) :: (b6, Obj.cells (keyC k).toArray 31 (0, 0)) :: (g, o) :: (vecL 31 x0.ov ++ Rest t h.toNat Fr)) := fun M clk o => perm_l [_, _] [_] (vecL 31 x0.ov ++ Rest t h.toNat Fr)
            have h43m := h9d3.perm (pM x0.M x0.clk _)
            have hdl := run_delete (P := Try.prog) (t := 57) (u := 31) (ty := 0) Try.underlying57 keyKey hok.mnd (h43m.get 0 rfl) y.1
            refine ⟨_, _, by simpa [keyC] using hck, _, hdl, ?_⟩
            have h43 := (h43m.setObj 0 rfl (o' := mapObj keyE (adel x0.M y.1) x0.clk)).perm (pM (adel x0.M y.1) x0.clk _).symm
            refine ⟨rS h43, _, _, _, rS h43, ?_⟩
            have pO : ∀ (v : VecB), ((b6, Obj.cells (keyC k).toArray 31 (0, 0)) :: (g, Obj.cells (cur.toArray.setIfInBounds (h.toNat * 2 + 1) (hslice x0)) 59 (0, 0)) :: (((x0.mb, mapObj keyE (adel x0.M y.1) x0.clk) :: vecL 31 v) ++ Rest t h.toNat Fr)).Perm (vecL 31 v ++ ([(b6, Obj.cells (keyC k).toArray 31 (0, 0)), (g, Obj.cells (cur.toArray.setIfInBounds (h.toNat * 2 + 1) (hslice x0)) 59 (0, 0)), (x0.mb, mapObj keyE (adel x0.M y.1) x0.clk)] ++ Rest t h.toNat Fr)) := fun v => perm_l [_, _, _] (vecL 31 v) (Rest t h.toNat Fr)
            have hl0 : x0.E.length = (x0.E.map (·.1)).length := by simp
            rw [hl0]
            refine s21 (h43.perm (pO x0.ov)) hok.vec (by rw [← hl0]; have := hok.len; omega) (by omega) (by omega) (by omega) fun w46 ov' h46 hov' => ⟨_, _, _, rfl, ?_⟩
            have h46' := h46.perm (pO ov').symm
            have htl : (x0.E.map (·.1)).take (0 : Int).toNat ++ (x0.E.map (·.1)).drop (1 : Int).toNat = ys.map (·.1) := by rw [hE]; rfl
            rw [htl] at hov' ⊢
            refine ⟨by rw [rS h46']; rfl, h46'.frozen 1 rfl _, fun w48 e48 => ?_⟩
            have h48 := h46'.set 1 rfl (h.toNat * 2 + 1) (.slice (vecA ov') (ys.map (·.1)).length (vecC ov'))
            rw [← e48, Array.setIfInBounds_setIfInBounds] at h48
            have hnd := hok.nd
            rw [hE] at hnd
            refine ⟨{ x0 with M := adel x0.M y.1, ov := ov', E := ys }, ?_, ⟨hov', nodup_del hok.mnd, hok.born.del _, fun k' => ?_, ?_, ?_⟩, rfl, ?_, ?_⟩
            · have el : (ys.map (·.1)).length = ys.length := by simp
              rw [el] at h48
              exact h48
            · show aget (adel x0.M y.1) k' = (lookE ys k').map _
              rw [aget_del, lookE_tail hnd, hok.map, hE]
              by_cases e : k' = y.1 <;> simp [e]
            · simp only [List.map_cons, List.nodup_cons] at hnd
              exact hnd.2
            · have := hok.len
              rw [hE] at this
              show ys.length ≤ 64
              simp at this; omega
            · rw [← hl0, if_pos hfull]; show ys = _; rw [hE]; rfl
            · rw [hE] at hrm
              show (ys.length : Int) < t.size
              simp at hrm; omega
        · exact ⟨x0, h9d2, hok, rfl, by rw [if_neg hfull], by omega⟩
end
end Go.Proofs.Ytdhdbdpemejpjaa
