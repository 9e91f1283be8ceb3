/- A part of the proof: lemmas. -/
import Derived.Test.YtgkcckghmlccnaaVcBufD
namespace Go.Proofs.Ytgkcckghmlccnaa
open Go Go.Vc
set_option maxRecDepth 100000
set_option linter.unusedVariables false

theorem eraseIdx_eq_filter {l : List Int} (hn : l.Nodup) {i : Nat} (hi : i < l.length) : l.eraseIdx i = l.filter fun k => decide (k ≠ l[i]) := by
  have hs : l = l.take i ++ l[i] :: l.drop (i + 1) := by rw [List.getElem_cons_drop, List.take_append_drop]
  generalize hx : l[i] = x at hs ⊢
  rw [List.eraseIdx_eq_take_drop_succ]
  conv => rhs; rw [hs]
  have hn' := hn
  rw [hs] at hn'
  simp only [List.nodup_append, List.nodup_cons] at hn'
  obtain ⟨_, ⟨n2, _⟩, n3⟩ := hn'
  rw [List.filter_append, List.filter_cons]
  simp only [ne_eq, not_true_eq_false, decide_false, Bool.false_eq_true, if_false]
  congr 1
  · refine (List.filter_eq_self.2 fun y hy => ?_).symm
    simp only [decide_eq_true_eq]
    exact fun e => n3 y hy x (List.mem_cons_self ..) e
  · refine (List.filter_eq_self.2 fun y hy => ?_).symm
    simp only [decide_eq_true_eq]
    exact fun e => n2 (e ▸ hy)

def Good (c : CacheG) : Prop := ∀ n, n ∈ c.ns ↔ n ∈ c.recs.map (·.n)
theorem Good.rec {c : CacheG} (h : Good c) {n : Int} (hn : n ∈ c.ns) : ∃ r, c.look n = some r := by
  cases e : c.look n with
  | some r => exact ⟨r, rfl⟩
  | none => exact absurd ((h n).1 hn) (look_none.1 e)
theorem Good.none {c : CacheG} (h : Good c) {n : Int} (hn : n ∉ c.ns) : c.look n = none := look_none.2 fun e => hn ((h n).2 e)

/-- Clean ones may have gone. -/
structure Evict (c c' : CacheG) : Prop where
  cb : c'.cb = c.cb
  db : c'.db = c.db
  room : c'.room = c.room
  sub : ∀ r ∈ c'.recs, r ∈ c.recs
  dirty : ∀ r ∈ c.recs, r.dirty = true → r ∈ c'.recs
  nsub : ∀ n ∈ c'.ns, n ∈ c.ns

section
variable {w0 w : World} {Im : Mem} {Fr L : List (Nat × Obj)} {c : CacheG} {R : Ending → World → Prop}

theorem look_filter {l : List Rec} {m n : Int} : (l.filter fun r => decide (r.n ≠ n)).find? (fun r => decide (r.n = m)) = if m = n then none else l.find? fun r => decide (r.n = m) := by
  induction l with
  | nil => simp
  | cons x l ih =>
    by_cases hx : x.n = n
    · rw [List.filter_cons_of_neg (by simp [hx]), ih, List.find?_cons]
      by_cases hm : m = n
      · simp [hm]
      · rw [if_neg hm, if_neg hm, hx]
        have : decide (n = m) = false := by simpa using fun e : n = m => hm e.symm
        simp [this]
    · rw [List.filter_cons_of_pos (by simp [hx]), List.find?_cons, List.find?_cons, ih]
      by_cases hm : m = n
      · subst hm
        have : decide (x.n = m) = false := by simpa using hx
        simp [this]
      · rw [if_neg hm, if_neg hm]

/-- (*Cache).makeRoom -/
theorem s25 (h : Own w0 Im w (c.L Fr)) (hc : CacheOk Im c) (hg : Good c) (hle : (c.ns.length : Int) ≤ c.room)
    (hT : ∀ w' c', Own w0 Im w' (c'.L Fr) → CacheOk Im c' → Good c' → Evict c c' → (c'.ns.length : Int) < c.room → R (.returned (.bool true)) w')
    (hF : ¬ (c.ns.length : Int) < c.room → ∀ w', Own w0 Im w' (c.L Fr) → R (.returned (.bool false)) w') :
    Calls Try.prog 25 #[.pointer (some ⟨c.cb, 0, none⟩)] w R := by
  apply vc25
  unfold Vc25
  intro b2 w3 e2 e3
  have h3 := (h.alloc' e2 e3).drew
  have hs := hc.small
  refine ⟨_, h3.cell 0 rfl _, _, _, rfl, _, _, _, h3.cell 1 rfl _, _, h3.cell 0 rfl _, _, _, rfl, _, h3.cell 1 rfl _, fun hlt => ?_, fun hge => ⟨_, h3.cell 0 rfl _, _, _, rfl, _, _, _, h3.cell 1 rfl _, ?_⟩⟩
  · exact hT _ c (h3.tail rfl) hc hg ⟨rfl, rfl, rfl, fun _ h => h, fun _ h _ => h, fun _ h => h⟩ hlt
  have hp := h3.perm (perm_l [_, _, _] (vecL 3 c.ord) (c.recs.map Rec.obj ++ Fr))
  refine s34 hp hc.vec (by omega) (fun k => match c.look k with | some r => !r.dirty | none => false)
    (fun w' => Own w0 Im w' (vecL 3 c.ord ++ ([(b2, .cells #[.pointer (some ⟨c.cb, 0, none⟩)] 28 (0, 0)), (c.cb, .cells c.cells 56 (0, 0)), (c.mb, mapObj (encI .i64) c.M c.clk)] ++ (c.recs.map Rec.obj ++ Fr)))) (fun _ h => h) hp
    (fun w' k R ho hk hr => ?_) (fun w' ho hall => ⟨_, rfl, fun _ => ?_, fun e => absurd (by omega) e⟩) (fun w' i hi ho hpi _ => ⟨_, rfl, fun e => absurd e (by omega), fun _ => ?_⟩)
  · refine ⟨35, _, _, rfl, Try.call35, ?_⟩
    show Calls Try.prog 35 #[.int .i64 k, .pointer (some ⟨b2, 0, none⟩)] w' R
    apply vc35
    unfold Vc35
    obtain ⟨r, hr2⟩ := hg.rec hk
    have hlk := (run_look (c := c) ho (by simp) hc k).2
    rw [hr2] at hlk
    refine ⟨_, _, rfl, _, Own.cellm ho (b := b2) (cs := #[.pointer (some ⟨c.cb, 0, none⟩)]) (T := 28) (z := (0, 0)) (by simp) 0, _, _, rfl, _, Own.cellm ho (b := c.cb) (cs := c.cells) (T := 56) (z := (0, 0)) (by simp) (0 + 2), _, hlk, _, _, rfl, r.dirty,
      Own.cellm ho (b := r.blk) (cs := #[.slice r.a 512 r.c, .bool r.dirty]) (T := 62) (z := (0, 0)) (by rw [← List.append_assoc]; exact rec_mem (look_mem hr2).1) (0 + 1), fun hd => ?_, fun hd => ?_⟩
    · rw [hr2] at hr; simpa [hd] using hr
    · rw [hr2] at hr; simpa [hd] using hr
  · exact hF hge _ ((ho.perm (perm_l [_, _, _] (vecL 3 c.ord) (c.recs.map Rec.obj ++ Fr)).symm).tail rfl)
  · have h17 := (ho.perm (perm_l [_, _, _] (vecL 3 c.ord) (c.recs.map Rec.obj ++ Fr)).symm).drew
    cases hord : c.ord with
    | none => have hv := hc.vec; rw [hord] at hv; have : _ ≤ 0 := hv.2.1; omega
    | some y =>
      obtain ⟨g, cap, cur⟩ := y
      have hvec := hc.vec
      rw [hord] at hvec
      have hgm : (g, Obj.cells cur.toArray 3 (0, 0)) ∈ ([(b2, .cells #[.pointer (some ⟨c.cb, 0, none⟩)] 28 (0, 0)), (c.cb, .cells c.cells 56 (0, 0)), (c.mb, mapObj (encI .i64) c.M c.clk)] ++ (vecL 3 c.ord ++ (c.recs.map Rec.obj ++ Fr))) := by rw [hord]; simp [vecL]
      have hcell := vec_cell hvec (h17.mem hgm) (j := i) (u := .int .i64 c.ns[i]) (by simp [i64s, hi])
      have hdel := run_delete (P := Try.prog) (t := 52) (K := 3) (E := 57) (enc := encI .i64) Try.underlying52 hkInt (b := c.mb) (M := c.M) (clk := c.clk) hc.nd (h17.get 2 rfl) c.ns[i] 3 0
      have h30 := h17.setObj 2 rfl (o' := mapObj (encI .i64) (adel c.M c.ns[i]) c.clk)
      have evA : vecA c.ord = some ⟨g, 0, none⟩ := by rw [hord]; rfl
      have et : ((i : Int)).toNat = i := by omega
      refine ⟨_, h17.cell 0 rfl _, _, _, rfl, _, h17.cell 1 rfl _, _, h17.cell 0 rfl _, _, _, rfl, _, _, _, h17.cell 1 rfl _, _, _, evA, by omega, by omega, _, by rw [et, Nat.zero_add]; exact hcell, _, hdel, h30.cell 1 rfl _, h30.cell 0 rfl _, h30.cell 0 rfl _, fun r31 e31 => ?_⟩
      rw [wrap_id (by omega) (by omega)] at e31
      have h30' := h30.drew
      refine ⟨_, h30'.cell 0 rfl _, _, h30'.cell 0 rfl _, _, _, rfl, _, _, _, h30'.cell 1 rfl _, ?_⟩
      have hq := h30'.perm (perm_l [_, _, _] (vecL 3 c.ord) (c.recs.map Rec.obj ++ Fr))
      rw [e31]
      refine s36 hq hc.vec hs hi fun w38 x' h38 hx' => ⟨_, _, _, rfl, ?_⟩
      have h38' := h38.perm (perm_l [_, _, _] (vecL 3 x') (c.recs.map Rec.obj ++ Fr)).symm
      refine ⟨h38'.cell 0 rfl _, h38'.cell 0 rfl _, _, _, rfl, by rw [h38'.cell 1 rfl _]; rfl, h38'.frozen 1 rfl _, fun w41 e41 => ?_⟩
      have h41 := h38'.set 1 rfl (0 + 3) (.slice (vecA x') (c.ns.eraseIdx i).length (vecC x'))
      rw [← e41] at h41
      refine ⟨_, h41.cell 0 rfl _, _, _, rfl, _, h41.cell 1 rfl _, fun r46 e46 => ⟨by rw [h41.cell 1 rfl _]; rfl, h41.frozen 1 rfl _, fun w47 e47 => ?_⟩⟩
      have h47 := (h41.set 1 rfl (0 + 4 + 2) (.int .i64 r46)).tail rfl
      rw [← e47] at h47
      have hel : (c.ns.eraseIdx i).length = c.ns.length - 1 := by rw [List.length_eraseIdx, if_pos hi]
      have hef := eraseIdx_eq_filter hc.nn hi
      refine hT w47 { c with ord := x', ns := c.ns.eraseIdx i, M := adel c.M c.ns[i], recs := c.recs.filter fun r => decide (r.n ≠ c.ns[i]), ev := r46 } ?_ ?_ ?_ ?_ ?_
      · refine h47.sub ?_
        exact List.Sublist.cons_cons _ (List.Sublist.cons_cons _ ((List.Sublist.refl (vecL 3 x')).append ((List.filter_sublist.map Rec.obj).append (List.Sublist.refl Fr))))
      · refine ⟨hx', nodup_del hc.nd, fun m => ?_, fun r hr => hc.bytes r (List.mem_filter.1 hr).1, (List.filter_sublist.map _).nodup hc.rn, ?_, by show (c.ns.eraseIdx i).length ≤ 2048; omega⟩
        · show aget (adel c.M c.ns[i]) m = ((c.recs.filter fun r => decide (r.n ≠ c.ns[i])).find? fun r => decide (r.n = m)).map _
          rw [aget_del, look_filter, hc.map m]
          unfold CacheG.look
          by_cases e : m = c.ns[i] <;> simp [e]
        · show (c.ns.eraseIdx i).Nodup
          rw [hef]; exact List.filter_sublist.nodup hc.nn
      · intro m
        show m ∈ c.ns.eraseIdx i ↔ m ∈ (c.recs.filter fun r => decide (r.n ≠ c.ns[i])).map (·.n)
        rw [hef]
        simp only [List.mem_filter, decide_eq_true_eq, List.mem_map]
        constructor
        · rintro ⟨h1, h2⟩
          obtain ⟨r, hr, e⟩ := List.mem_map.1 ((hg m).1 h1)
          exact ⟨r, ⟨hr, by rw [e]; exact h2⟩, e⟩
        · rintro ⟨r, ⟨hr, h2⟩, e⟩
          exact ⟨(hg m).2 (e ▸ List.mem_map_of_mem hr), by rw [← e]; exact h2⟩
      · refine ⟨rfl, rfl, rfl, fun r hr => (List.mem_filter.1 hr).1, fun r hr hd => List.mem_filter.2 ⟨hr, ?_⟩, fun m hm => ?_⟩
        · simp only [decide_eq_true_eq]
          intro e
          have hl := look_of_mem hc.rn hr
          rw [e] at hl
          rw [hl] at hpi
          simp [hd] at hpi
        · have : m ∈ c.ns.eraseIdx i := hm
          rw [hef] at this
          exact (List.mem_filter.1 this).1
      · show (((c.ns.eraseIdx i).length : Nat) : Int) < c.room
        omega
end
end Go.Proofs.Ytgkcckghmlccnaa
