/- A part of the proof: lemmas. -/
import Derived.Test.YtimokldcmpbjcaaDoorVcNamecG
namespace Go.Proofs.YtimokldcmpbjcaaDoor
open Go Go.Vc
set_option maxRecDepth 100000
set_option linter.unusedVariables false

theorem perm_in {α : Type} (x : α) (A B F : List α) : (x :: (A ++ (B ++ F))).Perm (A ++ (B ++ x :: F)) :=
  (List.perm_middle (l₁ := A) (l₂ := B ++ F)).symm.trans (List.Perm.append_left A List.perm_middle.symm)

/-- Whom a new name drives out. -/
def putE (E : List Kp) (room : Int) (k : Name) : List Kp × List Int :=
  match findK E k with
  | some x => (lessK E k, [x.id])
  | none => if room ≤ E.length then (match E with | x :: t => (t, [x.id]) | [] => ([], [])) else (E, [])

section
variable {w0 w : World} {Im : Mem} {Fr L : List (Nat × Obj)} {c : CacheG} {R : Ending → World → Prop}

theorem lessK_head {x : Kp} {t : List Kp} (h : ((x :: t).map (·.key)).Nodup) : lessK (x :: t) x.key = t := by
  unfold lessK
  rw [List.filter_cons]
  simp only [decide_true, Bool.not_true, Bool.false_eq_true, if_false]
  exact List.filter_eq_self.2 fun y hy => by
    simp only [List.map_cons, List.nodup_cons] at h
    have : y.key ≠ x.key := fun e => h.1 (e ▸ List.mem_map_of_mem hy)
    simp [this]

/-- (*Cache).Put -/
theorem s15 (h : Own w0 Im w (c.H ++ (c.d.L ++ Fr))) (hc : CacheOk c) (hb : c.d.waits.length < 4398046511104) (hl : c.last < 4611686018427387904) (k : Name) (n : Int)
    (hno : n < 0 → ∀ w', Own w0 Im w' (c.H ++ (c.d.L ++ Fr)) → R (.returned (.int .i64 1)) w')
    (hR : ∀ w' c', 0 ≤ n → Own w0 Im w' (c'.H ++ (c'.d.L ++ Fr)) → CacheOk c' → Turned c c' ((putE c.E c.room k).1 ++ [⟨k, n, c.last + 1⟩]) (c.last + 1) (putE c.E c.room k).2 → R (.returned (.int .i64 0)) w') :
    Calls Tryd.prog 15 #[.pointer (some ⟨c.cb, 0, none⟩), .agg #[.int .i64 k.1, .string k.2], .int .i64 n] w R := by
  apply vc15
  unfold Vc15
  intro b5 w6 e5 e6
  have h6 := h.alloc' e5 e6
  have hat : ∀ {w' : World} {l : List (Nat × Obj)}, Own w0 Im w' ((b5, .cells (nameC k).toArray 42 (0, 0)) :: l) → CellsAt w' ⟨b5, 0, none⟩ (nameC k) := fun {w' l} h => h.cellsAt 0 rfl (fun j v hj => by rw [Nat.zero_add, List.getElem?_toArray]; exact hj)
  refine s34 (h6.tail rfl) ⟨_, rfl, fun _ => ⟨fun e => hno e w6 (h6.tail rfl), fun hn => ?_⟩, fun e => (by cases e)⟩
  have hn0 : 0 ≤ n := by omega
  refine ⟨fun w' => ∃ c1, Own w0 Im w' ((b5, .cells (nameC k).toArray 42 (0, 0)) :: (c1.H ++ (c1.d.L ++ Fr))) ∧ CacheOk c1 ∧ Turned c c1 (putE c.E c.room k).1 c.last (putE c.E c.room k).2 ∧ findK c1.E k = none ∧ (c1.E.length : Int) < c1.room, ?_, ?_⟩
  · rintro w10 ⟨c1, h10, hc1, ht, hfn, hroom⟩
    have hlast1 : c1.last = c.last := ht.last
    refine ⟨_, _, by rw [← ht.cb], _, h10.cell 1 rfl _, fun r14 e14 => ⟨by rw [h10.cell 1 rfl _]; rfl, h10.frozen 1 rfl _, fun w15 e15 => ?_⟩⟩
    have hlo := hc1.lo
    rw [wrap_id (by omega) (by omega)] at e14
    have h15 := h10.set 1 rfl (0 + 4) (.int .i64 r14)
    rw [← e15] at h15
    have h15 := h15.drew
    refine ⟨_, h15.cell 1 rfl _, _, _, hat h15, _, h15.cell 1 rfl _, ?_⟩
    have hup := run_mapUpdate (P := Tryd.prog) (t := 76) Tryd.underlying76 keyName hc1.mnd (h15.get 2 rfl) k (.agg #[.int .i64 n, .int .i64 r14])
    refine ⟨_, hup, ?_⟩
    have h20 := (h15.setObj 2 rfl (o' := mapObj nameE (aput c1.M c1.clk k (.agg #[.int .i64 n, .int .i64 r14])).1 (aput c1.M c1.clk k (.agg #[.int .i64 n, .int .i64 r14])).2)).drew
    refine ⟨_, _, _, h20.cell 1 rfl _, _, _, hat h20, fun b24 w25 e24 e25 => ?_⟩
    have h25 := h20.alloc' e24 e25
    refine ⟨h25.cell 2 rfl _, ?_⟩
    have hlen : (c1.E.map (·.key)).length = c1.E.length := by simp
    have hrh := hc1.rhi
    obtain ⟨ov', w26, hr, ho, hov⟩ := vecE_append (n := 2) (P := Tryd.prog) (t := 51) (ty := 51) (e := 42) (bytes := 24) (z := .agg #[.int .i64 0, .string ByteArray.empty]) (f := nameC) (a := some ⟨b24, 0, none⟩) (c := 1) (ys := [k]) Tryd.underlying51 Tryd.type42 rfl rfl rfl rfl nameC_len nameC_one
      (h25.perm (perm_l [_, _, _, _] (vecL 42 c1.ov) (c1.d.L ++ Fr))) hc1.vec (fun _ => ⟨_, rfl, h25.cellsAt 0 rfl (fun j v hj => by rw [Nat.zero_add, List.getElem?_toArray]; simpa [nameC] using hj)⟩) (by rw [hlen]; simp; omega) (by rw [hlen]; simp [maxLen]; omega)
    rw [hlen] at hr
    refine ⟨_, _, _, w26, hr, ?_⟩
    have h26 := (ho.perm (perm_l [_, _, _, _] (vecL 42 ov') (c1.d.L ++ Fr)).symm).tail rfl
    refine ⟨by rw [h26.cell 1 rfl _]; rfl, h26.frozen 1 rfl _, fun w28 e28 => ?_⟩
    have h28 := h26.set 1 rfl (0 + 3) (.slice (vecA ov') (c1.E.length + [k].length) (vecC ov'))
    rw [← e28] at h28
    have hkn : k ∉ c1.E.map (·.key) := findK_none.1 hfn
    refine hR w28 { c1 with M := (aput c1.M c1.clk k (.agg #[.int .i64 n, .int .i64 r14])).1, clk := (aput c1.M c1.clk k (.agg #[.int .i64 n, .int .i64 r14])).2, ov := ov', E := c1.E ++ ([⟨k, n, r14⟩] : List Kp), last := r14 } hn0 ?_ ?_
      ⟨ht.cb, ht.db, ht.room, by rw [e14, hlast1]; show c1.E ++ _ = _; rw [ht.E], by rw [e14, hlast1], ht.waits, ht.nest, ht.passed, ht.epoch⟩
    · have := h28.tail rfl
      unfold CacheG.H CacheG.cells
      simp only [List.length_append, List.length_cons, List.length_nil, Nat.zero_add] at this ⊢
      exact this
    · refine ⟨hc1.dom, ?_, nodup_put hc1.mnd, fun k' => ?_, ?_, fun y hy => ?_, fun y hy g hg => ?_, fun g hg => ?_, ?_, ?_, hc1.rlo, hc1.rhi, ?_⟩
      · show VecE nameC 2 ov' ((c1.E ++ ([⟨k, n, r14⟩] : List Kp)).map (·.key))
        rw [List.map_append]; exact hov
      · show aget (aput c1.M c1.clk k (.agg #[.int .i64 n, .int .i64 r14])).1 k' = (findK (c1.E ++ ([⟨k, n, r14⟩] : List Kp)) k').map kpV
        rw [aget_put, findK_snoc hkn, hc1.map]
        by_cases e : k' = k <;> simp [e, kpV]
      · show ((c1.E ++ ([⟨k, n, r14⟩] : List Kp)).map (·.key)).Nodup
        rw [List.map_append]
        refine List.nodup_append.2 ⟨hc1.nd, by simp, ?_⟩
        intro x hx y hy e
        simp at hy
        exact hkn (by rw [← hy, ← e]; exact hx)
      · show y.id ≤ r14
        rcases List.mem_append.1 hy with hy | hy
        · have := hc1.ids y hy; omega
        · simp at hy; rw [hy]; exact Int.le_refl _
      · rcases List.mem_append.1 hy with hy | hy
        · exact hc1.apart y hy g hg
        · simp at hy
          have := hc1.gone g hg
          rw [hy]
          show r14 ≠ g
          omega
      · have := hc1.gone g hg
        show g ≤ r14
        omega
      · show ((c1.E ++ ([⟨k, n, r14⟩] : List Kp)).map (·.id)).Nodup
        rw [List.map_append]
        refine List.nodup_append.2 ⟨hc1.idn, by simp, ?_⟩
        intro x hx y hy e
        simp at hy
        obtain ⟨z, hz, ez⟩ := List.mem_map.1 hx
        have := hc1.ids z hz
        omega
      · show 0 ≤ r14
        omega
      · show ((c1.E ++ ([⟨k, n, r14⟩] : List Kp)).length : Int) ≤ c1.room
        simp; omega
  · refine ⟨fun v w' => (v = true → ∃ x t, c.E = x :: t ∧ findK c.E k = none ∧ c.room ≤ c.E.length ∧ Own w0 Im w' (c.H ++ (c.d.L ++ ((b5, .cells (nameC k).toArray 42 (0, 0)) :: Fr)))) ∧
      (v = false → ∃ c1, Own w0 Im w' ((b5, .cells (nameC k).toArray 42 (0, 0)) :: (c1.H ++ (c1.d.L ++ Fr))) ∧ CacheOk c1 ∧ Turned c c1 (putE c.E c.room k).1 c.last (putE c.E c.room k).2 ∧ findK c1.E k = none ∧ (c1.E.length : Int) < c1.room), ?_, ?_⟩
    · rintro v29 w30 ⟨hv1, hv2⟩
      refine ⟨fun e => ?_, fun e => hv2 e⟩
      obtain ⟨x, t, hE, hfn, hroom, h30⟩ := hv1 e
      have hp0 : 0 < (c.E.map (·.key)).length := by rw [hE]; simp
      obtain ⟨g, eg, hcell⟩ := vecE_at (e := 42) nameC_len h30 (fun p hp => by simp [CacheG.H, hp]) hc.vec (i := 0) hp0
      refine ⟨_, _, rfl, _, _, _, h30.cell 0 rfl _, _, _, eg, by omega, by rw [hE]; simp, ?_⟩
      have hk0 : (c.E.map (·.key))[0] = x.key := by simp [hE]
      rw [hk0] at hcell
      refine ⟨_, _, by simpa [nameC] using hcell, ?_⟩
      have hfx : findK c.E x.key = some x := findK_of_mem hc.nd (by rw [hE]; simp)
      refine s17 h30 hc hb x.key (fun e => by rw [hfx] at e; cases e) fun w39 c1 x' hx' h39 hc1 ht => ⟨_, rfl, ?_⟩
      rw [hfx] at hx'
      cases hx'
      have hless : lessK c.E x.key = t := by
        have := hc.nd
        rw [hE] at this ⊢
        exact lessK_head this
      have hput : putE c.E c.room k = (t, [x.id]) := by
        unfold putE
        rw [hfn]
        simp only [if_pos hroom]
        rw [hE]
      rw [hless] at ht
      refine ⟨c1, h39.perm (perm_in _ _ _ _).symm, hc1, by rw [hput]; exact ht, ?_, ?_⟩
      · rw [ht.E]
        refine findK_none.2 fun hm => findK_none.1 hfn ?_
        rw [hE]; exact List.mem_cons_of_mem _ hm
      · have := hc.full
        rw [ht.E, ht.room]
        rw [hE] at this
        simp at this; omega
    · have h8 := h6.drew
      refine ⟨_, _, hat h8, ?_⟩
      refine s17 (h8.perm (perm_in _ _ _ _)) hc hb k (fun hfn w44 h44 => ⟨_, rfl, fun e => (by cases e), fun _ => ?_⟩) fun w44 c1 x hx h44 hc1 ht => ⟨_, rfl, fun _ => ⟨fun e => (by cases e), fun _ => ?_⟩, fun e => (by cases e)⟩
      · refine ⟨_, _, rfl, _, _, _, h44.cell 0 rfl _, _, h44.cell 0 rfl _, ?_⟩
        refine ⟨fun e => ?_, fun e => ?_⟩
        · have hroom : c.room ≤ ((c.E.length : Nat) : Int) := of_decide_eq_true e
          have := hc.rlo
          cases hE : c.E with
          | nil => rw [hE] at hroom; simp at hroom; omega
          | cons x t => exact ⟨x, t, rfl, by rw [← hE]; exact hfn, by rw [← hE]; exact hroom, h44⟩
        · have hroom : ¬ c.room ≤ ((c.E.length : Nat) : Int) := of_decide_eq_false e
          have hput : putE c.E c.room k = (c.E, []) := by
            unfold putE
            rw [hfn]
            simp only [if_neg hroom]
          exact ⟨c, h44.perm (perm_in _ _ _ _).symm, hc, by rw [hput]; exact Turned.refl c, hfn, by omega⟩
      · have hput : putE c.E c.room k = (lessK c.E k, [x.id]) := by
          unfold putE
          rw [hx]
        obtain ⟨hm, hk⟩ := findK_mem hx
        have hlt := lessK_lt (E := c.E) (k := k) (List.mem_map.2 ⟨x, hm, hk⟩)
        have := hc.full
        refine ⟨c1, h44.perm (perm_in _ _ _ _).symm, hc1, by rw [hput]; exact ht, ?_, ?_⟩
        · rw [ht.E]; unfold lessK; rw [findK_filter, if_pos rfl]
        · rw [ht.E, ht.room]; omega
end
end Go.Proofs.YtimokldcmpbjcaaDoor
