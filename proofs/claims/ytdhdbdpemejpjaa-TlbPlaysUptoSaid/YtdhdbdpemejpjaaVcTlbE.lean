/- A part of the proof: lemmas. -/
import Derived.Test.YtdhdbdpemejpjaaVcTlbD
namespace Go.Proofs.Ytdhdbdpemejpjaa
open Go Go.Vc
set_option maxRecDepth 100000
set_option linter.unusedVariables false

def i64s (bs : List Int) : List Value := bs.map (.int .i64 ·)
theorem nodup_bound {l : List Int} (hn : l.Nodup) {n : Int} (h : ∀ x ∈ l, 1 ≤ x ∧ x ≤ n) (h0 : 0 ≤ n) : (l.length : Int) ≤ n := by
  have hsub : l ⊆ (List.range n.toNat).map fun (i : Nat) => ((i : Int) + 1) := fun x hx => by
    have := h x hx
    exact List.mem_map.2 ⟨(x - 1).toNat, List.mem_range.2 (by omega), by omega⟩
  have := List.Nodup.length_le_of_subset hn hsub
  simp at this
  omega
theorem sort_facts (l : List Int) (hn : l.Nodup) : (l.mergeSort fun x y => decide (x ≤ y)).Pairwise (· < ·) ∧ (∀ x, x ∈ (l.mergeSort fun x y => decide (x ≤ y)) ↔ x ∈ l) := by
  have hp := List.mergeSort_perm l (fun x y => decide (x ≤ y))
  have hs := List.pairwise_mergeSort (le := fun x y : Int => decide (x ≤ y)) (by intro a b c h1 h2; simp at *; omega) (by intro a b; simp; omega) l
  refine ⟨?_, fun x => hp.mem_iff⟩
  have hn2 := hp.nodup_iff.2 hn
  refine List.Pairwise.imp₂ ?_ hs hn2
  intro a b h1 h2
  simp at h1
  omega
/-- The shootdowns that are pending at a hart, rising. -/
structure PendOf (sh : Int → Option Shoot) (h : Nat) (ps : List Int) : Prop where
  up : ps.Pairwise (· < ·)
  iff : ∀ id, id ∈ ps ↔ ∃ s, sh id = some s ∧ s.left h = true

section
variable {w0 w : World} {Im : Mem} {Fr L : List (Nat × Obj)} {t : TlbG} {R : Ending → World → Prop}

/-- slices.Sort at numbers. -/
theorem s22 {x : VecB} {zs : List Int} (h : Own w0 Im w (vecL 3 x ++ L)) (hx : VecOk 1 x zs.length (i64s zs)) (hb : zs.length < 4611686018427387904)
    (hR : ∀ w' x', Own w0 Im w' (vecL 3 x' ++ L) → VecOk 1 x' zs.length (i64s (zs.mergeSort fun x y => decide (x ≤ y))) → vecA x' = vecA x → vecC x' = vecC x → R (.returned (.tuple #[])) w') :
    Calls Try.prog 22 #[.slice (vecA x) zs.length (vecC x)] w R :=
  own_sort (fun blk off cap zs w h1 h2 h3 => Any.slices_Sort_int Try.laysSort blk off cap zs w h1 h2 h3) (fun p cap w => Any.slices_Sort_int_none Try.laysSort p cap w) h hx hb hR

theorem TlbOk.small (ht : TlbOk t) : (t.OM.length : Int) ≤ 2147483647 := by
  have h := nodup_bound ht.omnd (n := t.begun) (fun x hx => by
    have h1 : aget t.OM x ≠ none := fun e => aget_none.1 e hx
    rw [ht.omap] at h1
    cases hq : t.sh x with
    | none => rw [hq] at h1; exact absurd rfl h1
    | some s => exact ht.dom x s hq) ht.blo
  rw [List.length_map] at h
  have := ht.bhi
  omega
theorem TlbOk.val (ht : TlbOk t) {e : Ent Int} (he : e ∈ t.OM) : ∃ s, t.sh e.1 = some s ∧ e.2.1 = shV s := by
  have h := aget_mem ht.omnd he
  rw [ht.omap] at h
  cases hq : t.sh e.1 with
  | none => rw [hq] at h; cases h
  | some s => rw [hq] at h; exact ⟨s, rfl, by simpa using h.symm⟩

/-- (*Tlb).Pending -/
theorem s11 {h : Int} (ho : Own w0 Im w (t.L ++ Fr)) (ht : TlbOk t)
    (hno : ¬ (0 ≤ h ∧ h < t.Es.length) → R (.returned (.slice none 0 0)) w)
    (hR : ∀ w' x ps, 0 ≤ h → h < t.Es.length → Own w0 Im w' (vecL 3 x ++ (t.L ++ Fr)) → VecOk 1 x ps.length (i64s ps) → PendOf t.sh h.toNat ps → ps.length ≤ 2147483647 → R (.returned (.slice (vecA x) ps.length (vecC x))) w') :
    Calls Try.prog 11 #[.pointer (some ⟨t.tb, 0, none⟩), .int .i64 h] w R := by
  apply vc11
  unfold Vc11
  refine s20 ho (fun hn => ⟨_, rfl, fun e => (by cases e), fun _ => hno hn⟩) fun h0 h1 => ⟨_, rfl, fun _ => ?_, fun e => (by cases e)⟩
  have hEl := Es_len (t := t)
  have hhi := ht.hi
  have hsm := ht.small
  have hm : (t.ob, mapObj (Vc.encI .i64) t.OM t.oclk) ∈ t.L ++ Fr := by simp [TlbG.L]
  obtain ⟨w9, hr9, h9⟩ := own_range (P := Try.prog) (enc := Vc.encI .i64) (b := t.ob) Try.underlying54 ho hm
  refine ⟨_, _, rfl, _, ho.cell 0 rfl _, _, w9, hr9, ?_⟩
  generalize w.heap.size = r at h9 ⊢
  let L2 := t.L ++ Fr
  have uniq : ∀ e ∈ t.OM, ∀ e' ∈ t.OM, e.2.2 = e'.2.2 → e = e' := fun e he e' he' hbe => by
    obtain ⟨i, hi, rfl⟩ := List.mem_iff_getElem.1 he
    obtain ⟨j, hj, rfl⟩ := List.mem_iff_getElem.1 he'
    have := nodup_inj ht.oborn.nd (i := i) (j := j) (by simpa using hi) (by simpa using hj) (by simpa using hbe)
    subst this; rfl
  have uniqk : ∀ e ∈ t.OM, ∀ e' ∈ t.OM, e.1 = e'.1 → e = e' := fun e he e' he' hbe => by
    obtain ⟨i, hi, rfl⟩ := List.mem_iff_getElem.1 he
    obtain ⟨j, hj, rfl⟩ := List.mem_iff_getElem.1 he'
    have := nodup_inj ht.omnd (i := i) (j := j) (by simpa using hi) (by simpa using hj) (by simpa using hbe)
    subst this; rfl
  refine ⟨fun m a l c w' => ∃ (seen : Array Nat) (x : VecB) (ids : List Int), m = (t.OM.filter fun e => !decide (e.2.2 ∈ seen.toList)).length ∧ a = vecA x ∧ l = ids.length ∧ c = vecC x ∧ Own w0 Im w' (vecL 3 x ++ ((r, .mapIter (some t.ob) t.oclk seen t.oclk) :: (t.L ++ Fr))) ∧ VecOk 1 x ids.length (i64s ids) ∧ ids.Nodup ∧
      (∀ id, id ∈ ids ↔ ∃ e ∈ t.OM, e.1 = id ∧ e.2.2 ∈ seen.toList ∧ ∃ s, t.sh id = some s ∧ s.left h.toNat = true),
    ⟨_, #[], none, [], rfl, rfl, rfl, rfl, h9, VecOk.nil, List.nodup_nil, by simp⟩, ?_⟩
  rintro m a l c w13 ⟨seen, x, ids, rfl, rfl, rfl, rfl, h13, hx, hnd, hids⟩
  have hlen : ids.length ≤ 2147483647 := by
    have hsub : ids ⊆ t.OM.map (·.1) := fun id hid => by
      obtain ⟨e, he, h1, _⟩ := (hids id).1 hid
      exact List.mem_map.2 ⟨e, he, h1⟩
    have := List.Nodup.length_le_of_subset hnd hsub
    rw [List.length_map] at this
    omega
  have h13p := h13.perm (perm_l (vecL 3 x) [(r, .mapIter (some t.ob) t.oclk seen t.oclk)] (t.L ++ Fr))
  rcases own_next (P := Try.prog) (enc := Vc.encI .i64) (M := t.OM) (b := t.ob) (clk := t.oclk) (ty := 0) h13p (by simp [TlbG.L]) (fun e he => ht.oborn.lt e he) (Nat.le_refl _) with ⟨hall, hrun⟩ | ⟨e, he, hes, w16, hrun, h16⟩
  · refine ⟨false, _, w13, hrun, fun w' => ex_over w', fun e => (by cases e), fun _ => ?_⟩
    have h13' := (h13p.tail rfl)
    refine s22 h13' hx (by omega) fun w37 x' h37 hx' ea ec => ⟨rfl, ?_⟩
    obtain ⟨f1, f2⟩ := sort_facts ids hnd
    have hml : (ids.mergeSort fun x y => decide (x ≤ y)).length = ids.length := List.length_mergeSort _
    rw [← ea, ← ec, ← hml]
    refine hR w37 x' (ids.mergeSort fun x y => decide (x ≤ y)) h0 h1 h37 (by rw [hml]; exact hx') ⟨f1, fun id => ?_⟩ (by omega)
    rw [f2, hids]
    constructor
    · rintro ⟨e, he, rfl, hs, hq⟩; exact hq
    · rintro ⟨s, hs, hl⟩
      have hk : id ∈ t.OM.map (·.1) := Classical.byContradiction fun hn => by
        have := aget_none.2 hn
        rw [ht.omap, hs] at this; cases this
      obtain ⟨e, he, rfl⟩ := List.mem_map.1 hk
      exact ⟨e, he, rfl, hall e he, s, hs, hl⟩
  · obtain ⟨s, hs, hv⟩ := ht.val he
    have hlt : (t.OM.filter fun x => !decide (x.2.2 ∈ (seen.push e.2.2).toList)).length < (t.OM.filter fun x => !decide (x.2.2 ∈ seen.toList)).length := by
      have e1 : (t.OM.filter fun x => !decide (x.2.2 ∈ (seen.push e.2.2).toList)) = ((t.OM.filter fun x => !decide (x.2.2 ∈ seen.toList)).filter fun x => !decide (x.2.2 = e.2.2)) := by
        rw [List.filter_filter]
        refine List.filter_congr fun x _ => ?_
        by_cases h1 : x.2.2 ∈ seen.toList <;> by_cases h2 : x.2.2 = e.2.2 <;> simp [h1, h2]
      rw [e1]
      refine Nat.lt_of_le_of_ne (List.length_filter_le _ _) fun h => ?_
      have := List.length_filter_eq_length_iff.1 h e (List.mem_filter.2 ⟨he, by simpa using hes⟩)
      simp at this
    have hent : (Instr.entry (.pointer (some ⟨r, 0, none⟩))).run Try.prog w16 = .ok (.tuple #[Vc.encI .i64 e.1, e.2.1]) w16 := own_entry h16 (by simp [TlbG.L]) he ht.oborn.nd
    rw [hv] at hent
    refine ⟨true, _, w16, hrun, fun w' => ex_next _ _ w', fun _ => ?_, fun e => (by cases e)⟩
    refine ⟨e.1, _, _, _, _, _, _, _, _, _, hent, fun b27 w28 e27 e28 => ?_⟩
    have h28 := h16.alloc' e27 e28
    refine ⟨h28.putOk 0 rfl (by simp), fun w29 e29 => ?_⟩
    have h29 : Own w0 Im w29 ((b27, .cells (shC s).toArray 64 (0, 0)) :: (r, .mapIter (some t.ob) t.oclk (seen.push e.2.2) t.oclk) :: (vecL 3 x ++ (t.L ++ Fr))) := by rw [e29]; exact h28.putAll (k := 0) rfl (shC s) rfl
    have hx8 : h.toNat < 8 := by omega
    have hmem : ∀ id, (∃ e' ∈ t.OM, e'.1 = id ∧ e'.2.2 ∈ (seen.push e.2.2).toList ∧ ∃ s, t.sh id = some s ∧ s.left h.toNat = true) ↔ id ∈ ids ∨ (id = e.1 ∧ s.left h.toNat = true) := by
      intro id
      rw [hids]
      constructor
      · rintro ⟨e', he', rfl, hb, s', hs', hl'⟩
        by_cases hbb : e'.2.2 = e.2.2
        · have := uniq e' he' e he hbb
          subst this
          rw [hs] at hs'; cases hs'
          exact .inr ⟨rfl, hl'⟩
        · exact .inl ⟨e', he', rfl, by simpa [hbb] using hb, s', hs', hl'⟩
      · rintro (⟨e', he', rfl, hb, hq⟩ | ⟨rfl, hl⟩)
        · exact ⟨e', he', rfl, by simp; exact .inl (by simpa using hb), hq⟩
        · exact ⟨e, he, rfl, by simp, s, hs, hl⟩
    refine ⟨h0, by show h < ((8 : Nat) : Int); omega, s.left h.toNat, ?_, fun hl => ?_, fun hl => ?_⟩
    · rw [h29.cell 0 rfl, List.getElem?_toArray]
      have := shC_left s hx8
      rw [show 0 + 1 + h.toNat * 1 = 1 + h.toNat by omega]; exact this
    · intro b31 w32 e31 e32
      have hne : e.1 ∉ ids := fun hm => by
        obtain ⟨e', he', h1, h2, _⟩ := (hids e.1).1 hm
        have := uniqk e' he' e he h1
        subst this
        exact hes h2
      have h32 := (h29.tail rfl).alloc' e31 e32
      obtain ⟨x', w33, hr, ho2, hx'⟩ := own_append (t := 23) (ty := 23) (e := 3) (bytes := 8) (size := 1) (z := .int .i64 0) (a := ⟨b31, 0, none⟩) (m := 1) (c := 1) (news := [.int .i64 e.1]) Try.underlying23 Try.type3 rfl rfl rfl rfl (h32.perm (perm_l [_, _] (vecL 3 x) _)) hx rfl
        (h32.cellsAt 0 rfl (fun j v hj => by simpa using hj)) (by intro u hu; simp at hu; subst hu; rfl) (by omega) (by omega) (by simp only [maxLen]; omega)
      have ho3 := (ho2.perm (perm_l [_, _] (vecL 3 x') _).symm).tail rfl
      refine ⟨_, _, _, w33, hr, _, hlt, seen.push e.2.2, x', ids ++ [e.1], rfl, rfl, by simp, rfl, ho3.perm (perm_l [_] (vecL 3 x') _), by simpa [i64s] using hx', ?_, fun id => ?_⟩
      · refine List.nodup_append.2 ⟨hnd, by simp, ?_⟩
        intro y hy z hz eq
        simp at hz
        exact hne (by rw [← hz, ← eq]; exact hy)
      · rw [hmem, List.mem_append, List.mem_singleton]
        exact or_congr_right ⟨fun h => ⟨h, hl⟩, fun h => h.1⟩
    · refine ⟨_, hlt, seen.push e.2.2, x, ids, rfl, rfl, rfl, rfl, (h29.tail rfl).perm (perm_l [_] (vecL 3 x) _), hx, hnd, fun id => ?_⟩
      rw [hmem]
      constructor
      · exact fun h => .inl h
      · rintro (h | ⟨_, h⟩)
        · exact h
        · rw [hl] at h; cases h
end
end Go.Proofs.Ytdhdbdpemejpjaa
