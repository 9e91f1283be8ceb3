/- A part of the proof: lemmas. -/
import Derived.Test.YtimokldcmpbjcaaDoorVcNamecF
namespace Go.Proofs.YtimokldcmpbjcaaDoor
open Go Go.Vc
set_option maxRecDepth 100000
set_option linter.unusedVariables false

/-- The names are these now, these were let go. -/
structure Turned (c c' : CacheG) (E : List Kp) (last : Int) (gone : List Int) : Prop where
  cb : c'.cb = c.cb
  db : c'.d.db = c.d.db
  room : c'.room = c.room
  E : c'.E = E
  last : c'.last = last
  waits : c'.d.waits = c.d.waits ++ gone.map fun g => (g, c.d.epoch)
  nest : c'.d.nest = c.d.nest
  passed : c'.d.passed = c.d.passed
  epoch : c'.d.epoch = c.d.epoch
theorem Turned.refl (c : CacheG) : Turned c c c.E c.last [] := ⟨rfl, rfl, rfl, rfl, rfl, by simp, rfl, rfl, rfl⟩
theorem Turned.trans {a b c : CacheG} {E E' : List Kp} {l l' : Int} {g g' : List Int} (h : Turned a b E l g) (k : Turned b c E' l' g') : Turned a c E' l' (g ++ g') :=
  ⟨k.cb.trans h.cb, k.db.trans h.db, k.room.trans h.room, k.E, k.last, by rw [k.waits, h.waits, h.epoch]; simp, k.nest.trans h.nest, k.passed.trans h.passed, k.epoch.trans h.epoch⟩

section
variable {w0 w : World} {Im : Mem} {Fr L : List (Nat × Obj)} {c : CacheG} {R : Ending → World → Prop}

/-- (*Cache).Forget -/
theorem s17 (h : Own w0 Im w (c.H ++ (c.d.L ++ Fr))) (hc : CacheOk c) (hb : c.d.waits.length < 4398046511104) (k : Name)
    (hno : findK c.E k = none → ∀ w', Own w0 Im w' (c.H ++ (c.d.L ++ Fr)) → R (.returned (.bool false)) w')
    (hyes : ∀ w' c' x, findK c.E k = some x → Own w0 Im w' (c'.H ++ (c'.d.L ++ Fr)) → CacheOk c' → Turned c c' (lessK c.E k) c.last [x.id] → R (.returned (.bool true)) w') :
    Calls Tryd.prog 17 #[.pointer (some ⟨c.cb, 0, none⟩), .agg #[.int .i64 k.1, .string k.2]] w R := by
  apply vc17
  unfold Vc17
  intro b4 w5 e4 e5
  have h5 := h.alloc' e4 e5
  have hp : ∀ {w'}, Own w0 Im w' ((b4, .cells (nameC k).toArray 42 (0, 0)) :: (c.H ++ (c.d.L ++ Fr))) → Own w0 Im w' (c.H ++ (((b4, .cells (nameC k).toArray 42 (0, 0)) :: c.d.L) ++ Fr)) := fun h => h.perm (perm_l [_] c.H (c.d.L ++ Fr))
  have hat : ∀ {w' : World} {l : List (Nat × Obj)}, Own w0 Im w' ((b4, .cells (nameC k).toArray 42 (0, 0)) :: l) → CellsAt w' ⟨b4, 0, none⟩ (nameC k) := fun {w' l} h => h.cellsAt 0 rfl (fun j v hj => by rw [Nat.zero_add, List.getElem?_toArray]; exact hj)
  refine ⟨_, _, hat h5, ?_⟩
  refine s13 (hp h5) hc k fun w10 h10 => ⟨_, _, rfl, fun hx9 => ?_, fun hx9 => ?_⟩
  · obtain ⟨x, hx⟩ := Option.isSome_iff_exists.1 hx9
    obtain ⟨hxm, hxk⟩ := findK_mem hx
    have h10' := (h10.perm (perm_l [_] c.H (c.d.L ++ Fr)).symm).drew
    have hl := fun {w' : World} (h : Own w0 Im w' ((b4, .cells (nameC k).toArray 42 (0, 0)) :: (c.H ++ (c.d.L ++ Fr)))) => (run_look h (by simp [CacheG.H]) hc k).2
    rw [hx] at hl
    refine ⟨_, _, rfl, _, h10'.cell 1 rfl _, _, h10'.cell 1 rfl _, _, _, hat h10', _, _, hl h10', ?_⟩
    refine s37 (Fr := ((b4, .cells (nameC k).toArray 42 (0, 0)) :: c.H) ++ Fr) (h10'.perm (perm_l ((b4, _) :: c.H) c.d.L Fr)) hc.dom hb (fun hin => absurd rfl (hc.apart x hxm _ hin)) fun hnin w21 wv h21 hd21 => ⟨_, rfl, ?_⟩
    have h21' := h21.perm (perm_l ((b4, _) :: c.H) _ Fr).symm
    have hl21 := (run_look h21' (by simp [CacheG.H]) hc k).2
    rw [hx] at hl21
    refine ⟨hl21, hat h21', h21'.cell 1 rfl _, ?_⟩
    have h21d := h21'.drew
    refine ⟨_, h21d.cell 1 rfl _, _, _, hat h21d, ?_⟩
    have hdel := run_delete (P := Tryd.prog) (t := 76) (u := 42) (ty := 0) Tryd.underlying76 keyName hc.mnd (h21d.get 2 rfl) k
    refine ⟨_, hdel, ?_⟩
    have h25 := h21d.setObj 2 rfl (o' := mapObj nameE (adel c.M k) c.clk)
    refine ⟨_, _, _, h25.cell 1 rfl _, ?_⟩
    have hov := hc.vec
    have hlen : (c.E.map (·.key)).length = c.E.length := by simp
    have hsm : c.E.length ≤ 4096 := by have := hc.full; have := hc.rhi; omega
    rw [← hlen]
    refine s38 (L := [(b4, .cells (nameC k).toArray 42 (0, 0)), (c.cb, .cells c.cells 78 (0, 0)), (c.mb, mapObj nameE (adel c.M k) c.clk)] ++ (_ ++ Fr)) (h25.perm (perm_l [_, _, _] (vecL 42 c.ov) _)) hov (by rw [hlen]; omega) (fun o => decide (o = k)) (fun w' F' o R ho hk hr => s39 ho (by simp) hr) fun w28 ov' h28 hov' => ⟨_, _, _, rfl, ?_⟩
    have h28' := h28.perm (perm_l [_, _, _] (vecL 42 ov') _).symm
    refine ⟨by rw [h28'.cell 1 rfl _]; rfl, h28'.frozen 1 rfl _, fun w30 e30 => ?_⟩
    have h30 := h28'.set 1 rfl (0 + 3) (.slice (vecA ov') ((c.E.map (·.key)).filter fun o => !decide (o = k)).length (vecC ov'))
    rw [← e30] at h30
    have h30' := h30.tail rfl
    have hkeys := lessK_keys c.E k
    have hll : ((c.E.map (·.key)).filter fun o => !decide (o = k)).length = (lessK c.E k).length := by rw [← hkeys, List.length_map]
    refine hyes w30 { c with d := { c.d with wv := wv, waits := c.d.waits ++ [(x.id, c.d.epoch)] }, M := adel c.M k, ov := ov', E := lessK c.E k } x hx ?_ ?_ ⟨rfl, rfl, rfl, rfl, rfl, rfl, rfl, rfl, rfl⟩
    · rw [hll] at h30'
      exact h30'
    · have hsub : ∀ y ∈ lessK c.E k, y ∈ c.E ∧ y.key ≠ k := fun y hy => by
        have := List.mem_filter.1 hy
        exact ⟨this.1, by simpa using this.2⟩
      have hidx : ∀ y ∈ lessK c.E k, y.id ≠ x.id := fun y hy e => by
        obtain ⟨h1, h2⟩ := hsub y hy
        obtain ⟨i, hi, rfl⟩ := List.mem_iff_getElem.1 h1
        obtain ⟨j, hj, hxj⟩ := List.mem_iff_getElem.1 hxm
        have := nodup_inj hc.idn (i := i) (j := j) (by simpa using hi) (by simpa using hj) (by simp [hxj, e])
        subst this
        rw [hxj] at h2; exact h2 hxk
      refine ⟨hd21, ?_, nodup_del hc.mnd, fun k' => ?_, ?_, fun y hy => hc.ids y (hsub y hy).1, fun y hy g hg => ?_, fun g hg => ?_, (List.filter_sublist.map _).nodup hc.idn, hc.lo, hc.rlo, hc.rhi, ?_⟩
      · show VecE nameC 2 ov' ((lessK c.E k).map (·.key))
        rw [hkeys]; exact hov'
      · show aget (adel c.M k) k' = (findK (lessK c.E k) k').map kpV
        unfold lessK
        rw [aget_del, findK_filter, hc.map]
        by_cases e : k' = k <;> simp [e]
      · exact (List.filter_sublist.map _).nodup hc.nd
      · simp only [List.map_append, List.map_cons, List.map_nil, List.mem_append, List.mem_singleton] at hg
        rcases hg with hg | hg
        · exact hc.apart y (hsub y hy).1 g hg
        · rw [hg]; exact hidx y hy
      · simp only [List.map_append, List.map_cons, List.map_nil, List.mem_append, List.mem_singleton] at hg
        rcases hg with hg | hg
        · exact hc.gone g hg
        · rw [hg]; exact hc.ids x hxm
      · have h1 := lessK_len (E := c.E) (k := k)
        have h2 := hc.full
        show ((lessK c.E k).length : Int) ≤ c.room
        omega
  · have hn : findK c.E k = none := by
      cases e : findK c.E k with
      | none => rfl
      | some x => rw [e] at hx9; cases hx9
    exact hno hn w10 ((h10.perm (perm_l [_] c.H (c.d.L ++ Fr)).symm).tail rfl)
end
end Go.Proofs.YtimokldcmpbjcaaDoor
