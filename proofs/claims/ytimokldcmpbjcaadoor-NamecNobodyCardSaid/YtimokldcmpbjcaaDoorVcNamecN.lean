/- A part of the proof: lemmas. -/
import Derived.Test.YtimokldcmpbjcaaDoorVcNamecM
import Derived.Test.YtimokldcmpbjcaaDoorVcIn
namespace Go.Proofs.YtimokldcmpbjcaaDoor
open Go Go.Vc
set_option maxRecDepth 100000
set_option linter.unusedVariables false

/-- A call. -/
structure Op where
  kind : Int
  key : Name
  ino : Int
def opC (o : Op) : List Value := [.int .i64 o.kind, .int .i64 o.key.1, .string o.key.2, .int .i64 o.ino]
/-- Both caches are the same. -/
structure Same (c : CacheG) (r : RefG) : Prop where
  E : r.E = c.E
  last : r.last = c.last
  room : r.room = c.room
  gone : r.gone = c.d.waits.map (·.1)
theorem Same.turn {c c' : CacheG} {r r' : RefG} {E : List Kp} {last : Int} {g : List Int} (h : Same c r) (h1 : Turned c c' E last g) (h2 : RTurned r r' E last g) : Same c' r' :=
  ⟨h2.E.trans h1.E.symm, h2.last.trans h1.last.symm, h2.room.trans (h.room.trans h1.room.symm), by rw [h2.gone, h1.waits, h.gone]; simp [Function.comp_def]⟩
theorem putE_len (E : List Kp) (room : Int) (k : Name) (hn : (E.map (·.key)).Nodup) : (putE E room k).1.length + (putE E room k).2.length = E.length := by
  unfold putE
  cases hf : findK E k with
  | some x =>
    obtain ⟨hm, hk⟩ := findK_mem hf
    obtain ⟨i, hi, rfl⟩ := List.mem_iff_getElem.1 hm
    show (lessK E k).length + 1 = _
    rw [← hk, lessK_at hn hi]
    simp; omega
  | none =>
    by_cases hr : room ≤ E.length
    · simp only [if_pos hr]
      cases E <;> simp
    · simp only [if_neg hr]; simp
theorem dirE_len (E : List Kp) (dir : Int) : (dirE E dir).1.length + (dirE E dir).2.length = E.length := by
  unfold dirE
  simp only [List.length_map]
  induction E with
  | nil => rfl
  | cons x t ih =>
    rw [List.filter_cons, List.filter_cons]
    by_cases h : x.key.1 = dir
    · simp only [h, decide_true, Bool.not_true, Bool.false_eq_true, if_false, if_true, List.length_cons]; omega
    · simp only [h, decide_false, Bool.not_false, Bool.false_eq_true, if_false, if_true, List.length_cons]; omega
theorem lessK_len1 {E : List Kp} {k : Name} {x : Kp} (hn : (E.map (·.key)).Nodup) (h : findK E k = some x) : (lessK E k).length + 1 = E.length := by
  obtain ⟨hm, hk⟩ := findK_mem h
  obtain ⟨i, hi, rfl⟩ := List.mem_iff_getElem.1 hm
  rw [← hk, lessK_at hn hi]
  simp; omega

section
variable {w0 w : World} {Im : Mem} {Fr L : List (Nat × Obj)} {R : Ending → World → Prop}
theorem perm_ref (A D V F : List (Nat × Obj)) : (A ++ (D ++ (V ++ F))).Perm (V ++ (A ++ (D ++ F))) :=
  (List.Perm.append_left A (perm_l D V F)).trans (perm_l A V (D ++ F))

/-- The law NamecKeeps. -/
theorem s4 (h : Own w0 Im w []) (hm : MaxLen Im) {a : Option Addr} {l k : Nat} {ops : List Op} (hops : InE Im opC 4 a l ops) (hl : l ≤ 3518437208780) {room : Int}
    (hR : ∀ w', Own w0 Im w' [] → R (.returned (.bool true)) w') :
    Calls Tryd.prog 4 #[.int .i64 room, .slice a l k] w R := by
  apply vc4
  unfold Vc4
  have hdone : ∀ w' L, Own w0 Im w' L → R (.returned (.bool true)) w' := fun w' L ho => hR w' (ho.sub (List.nil_sublist _))
  have hlen := hops.len
  refine s11 h (by omega) (by omega) fun w5 d h5 hd hn hp he hw => ⟨_, _, rfl, ?_⟩
  refine s12 h5 hd (fun hno => ⟨_, _, rfl, ?_⟩) fun w9 cb mb h1 h2 h9 => ⟨_, _, rfl, ?_⟩
  · refine s9 h5 hm fun w12 h12 => ⟨_, rfl, fun _ => ⟨fun e => (by cases e), fun _ => ?_⟩, fun e => (by cases e)⟩
    refine ⟨fun v w' => v = true ∧ Own w0 Im w' (d.L ++ []), fun v w' ⟨hv, hw⟩ => ⟨fun _ => ⟨fun _ => hdone _ _ hw, fun e => absurd rfl e⟩, fun e => (by rw [hv] at e; cases e)⟩, fun _ => ⟨rfl, h12⟩, fun e => ⟨?_, h12⟩⟩
    rcases hno with h | h
    · exact absurd h e
    · simpa using h
  refine s9 h9 hm fun w12 h12 => ⟨_, rfl, fun _ => ⟨fun e => (by cases e), fun _ => ?_⟩, fun e => (by cases e)⟩
  refine ⟨fun v w' => v = false ∧ w' = w12, fun v w' ⟨hv, hw'⟩ => ⟨fun e => (by rw [hv] at e; cases e), fun _ => ⟨fun e => absurd rfl e, fun _ => ⟨fun e => (by cases e), fun _ => ?_⟩⟩⟩, fun e => (by omega), fun _ => ⟨by simp; omega, rfl⟩⟩
  subst hw'
  intro rb w17 e16 e17
  have h17 := h12.alloc' e16 e17
  have hc0 := new_ok (cb := cb) (mb := mb) hd hw h1 h2
  have hr0 : RefOk { rb := rb, room := room, lv := none, E := [], last := 0, gv := none, gone := [] } := ⟨VecE.nil, VecE.nil, List.nodup_nil, by simp, by simp⟩
  let c0 : CacheG := { cb := cb, d := d, room := room, mb := mb, M := [], clk := 0, ov := none, E := [], last := 0 }
  let r0 : RefG := { rb := rb, room := room, lv := none, E := [], last := 0, gv := none, gone := [] }
  have h17' : Own w0 Im w17 (c0.H ++ (c0.d.L ++ (r0.L ++ []))) := h17.perm (perm_ref c0.H c0.d.L r0.L []).symm
  have hs0 : Same c0 r0 := ⟨rfl, rfl, rfl, by show [] = d.waits.map _; rw [hw]; rfl⟩
  refine ⟨fun w' => ∃ (c : CacheG) (r : RefG), Own w0 Im w' (c.H ++ (c.d.L ++ (r.L ++ []))) ∧ CacheOk c ∧ RefOk r ∧ Same c r ∧ c.cb = cb ∧ r.rb = rb, ?_, ?_⟩
  · -- behind the calls
    rintro w18 ⟨c, r, h18, hc, hr, hs, hcb, hrb⟩
    refine at_cb hcb ?_
    refine s22 h18 hc fun w20 x h20 hx => ⟨_, _, _, rfl, ?_⟩
    have p20 := perm_l (vecL 42 x) (c.H ++ (c.d.L ++ r.L)) []
    have h20r : Own w0 Im w20 (r.L ++ (vecL 42 x ++ (c.H ++ (c.d.L ++ [])))) :=
      h20.perm ((List.Perm.append_left _ (perm_ref c.H c.d.L r.L [])).trans (perm_l (vecL 42 x) r.L _))
    rw [← hrb]
    have hel : r.E.length = c.E.length := by rw [hs.E]
    refine ⟨_, _, _, h20r.cell 0 rfl _, fun e => absurd (by rw [hel]) e, fun _ => ?_⟩
    have hsm := hr.len
    refine ⟨fun m v w' => ∃ j : Nat, m = c.E.length - j ∧ v = j ∧ j ≤ c.E.length ∧ Own w0 Im w' (r.L ++ (vecL 42 x ++ (c.H ++ (c.d.L ++ [])))), ⟨_, 0, rfl, rfl, by omega, h20r⟩, ?_⟩
    rintro m v w25 ⟨j, rfl, rfl, hj, h25⟩
    refine ⟨fun hlt => ?_, fun hge => hdone _ _ h25⟩
    have hj' : j < c.E.length := by omega
    have ej : ((j : Nat) : Int).toNat = j := by omega
    have h25 := h25.drew
    obtain ⟨g, eg, hcell⟩ := vecE_at (e := 42) nameC_len h25 (fun p hp => by simp [hp]) hx (i := j) (by simpa using hj')
    have hk0 : (c.E.map (·.key))[j]'(by simpa using hj') = c.E[j].key := by simp
    rw [hk0] at hcell
    obtain ⟨g2, eg2, hcell2⟩ := vecE_at (e := 54) kpC_len h25 (fun p hp => by simp [RefG.L, hp]) hr.lv (i := j) (by omega)
    have hk2 : r.E[j]'(by omega) = c.E[j] := by simp [hs.E]
    rw [hk2] at hcell2
    refine ⟨_, _, eg, by omega, hlt, c.E[j].key.1, c.E[j].key.2, by rw [ej, Nat.zero_add]; exact hcell, _, _, _, h25.cell 0 rfl _, _, _, eg2, by omega, by omega, c.E[j].key.1, c.E[j].key.2, ?_, false, fun w' => ?_, fun w' => ?_, fun e => (by cases e), fun _ r36 e36 => ?_⟩
    · rw [ej, Nat.zero_add]
      intro i v hi
      match i with
      | 0 => exact hcell2 0 v (by simpa [kpC] using hi)
      | 1 => exact hcell2 1 v (by simpa [kpC] using hi)
      | i + 2 => simp at hi
    · exact name_guard' c.E[j].key c.E[j].key w'
    · exact name_ne c.E[j].key w'
    · rw [wrap_id (by omega) (by omega)] at e36
      exact ⟨_, by omega, j + 1, rfl, by omega, by omega, h25⟩
  · -- the calls
    refine ⟨fun m v w' => ∃ (i : Nat) (c : CacheG) (r : RefG), m = ops.length - i ∧ v = i ∧ i ≤ ops.length ∧ Own w0 Im w' (c.H ++ (c.d.L ++ (r.L ++ []))) ∧ CacheOk c ∧ RefOk r ∧ Same c r ∧ c.cb = cb ∧ c.d.db = d.db ∧ r.rb = rb ∧ r.gone.length + r.E.length ≤ i ∧ r.last ≤ i,
      ⟨_, 0, c0, r0, rfl, rfl, by omega, h17', hc0, hr0, hs0, rfl, rfl, rfl, by simp [r0], by simp [r0]⟩, ?_⟩
    rintro m v w40 ⟨i, c, r, rfl, rfl, hi, h40, hc, hr, hs, hcb, hdb, hrb, hcnt, hlast⟩
    refine ⟨fun hlt => ?_, fun hge => ⟨c, r, h40, hc, hr, hs, hcb, hrb⟩⟩
    have hi' : i < ops.length := by omega
    obtain ⟨b41, o42, ea, hcells, _⟩ := hops.get h40 hi'
    have et : ((i : Nat) : Int).toNat = i := by omega
    refine ⟨_, _, ea, by omega, hlt, _, _, _, _, by rw [et]; exact hcells, fun b47 w48 e47 e48 => ?_⟩
    have h48 := h40.alloc' e47 e48
    refine ⟨h48.putOk 0 rfl (by simp), fun w49 e49 => ?_⟩
    have h49 : Own w0 Im w49 ((b47, .cells (opC ops[i]).toArray 44 (0, 0)) :: (c.H ++ (c.d.L ++ (r.L ++ [])))) := by rw [e49]; exact h48.put (opC ops[i]) 0 0 rfl 0
    generalize hop : ops[i] = op at h49
    have pT : ∀ (c : CacheG) (r : RefG), ((b47, Obj.cells (opC op).toArray 44 (0, 0)) :: (c.H ++ (c.d.L ++ (r.L ++ [])))).Perm (c.H ++ (c.d.L ++ (r.L ++ [(b47, Obj.cells (opC op).toArray 44 (0, 0))]))) := fun c r =>
      (perm_in _ c.H c.d.L (r.L ++ [])).trans (List.Perm.append_left _ (List.Perm.append_left _ List.perm_middle.symm))
    have h49t := h49.perm (pT c r)
    have tmp : ∀ {w' : World} {c : CacheG} {r : RefG}, Own w0 Im w' (c.H ++ (c.d.L ++ (r.L ++ [(b47, Obj.cells (opC op).toArray 44 (0, 0))]))) → ∀ j, w'.cell? ⟨b47, j, none⟩ = (opC op)[j]? := fun {w' c r} h j => by
      have := h.mem (b := b47) (o := .cells (opC op).toArray 44 (0, 0)) (by simp)
      rw [cell_of this, List.getElem?_toArray]
    have tmpK : ∀ {w' : World} {c : CacheG} {r : RefG}, Own w0 Im w' (c.H ++ (c.d.L ++ (r.L ++ [(b47, Obj.cells (opC op).toArray 44 (0, 0))]))) → CellsAt w' ⟨b47, 0 + 1, none⟩ [.int .i64 op.key.1, .string op.key.2] := fun {w' c r} h j v hj => by
      rw [add_none, tmp h]
      match j with
      | 0 => simpa [opC] using hj
      | 1 => simpa [opC] using hj
      | j + 2 => simp at hj
    have toR : ∀ {w' : World} {c : CacheG} {r : RefG}, Own w0 Im w' (c.H ++ (c.d.L ++ (r.L ++ [(b47, Obj.cells (opC op).toArray 44 (0, 0))]))) → Own w0 Im w' (r.L ++ (c.H ++ (c.d.L ++ [(b47, Obj.cells (opC op).toArray 44 (0, 0))]))) := fun {w' c r} h => h.perm (perm_ref c.H c.d.L r.L _)
    have ofR : ∀ {w' : World} {c : CacheG} {r : RefG}, Own w0 Im w' (r.L ++ (c.H ++ (c.d.L ++ [(b47, Obj.cells (opC op).toArray 44 (0, 0))]))) → Own w0 Im w' (c.H ++ (c.d.L ++ (r.L ++ [(b47, Obj.cells (opC op).toArray 44 (0, 0))]))) := fun {w' c r} h => h.perm (perm_ref c.H c.d.L r.L _).symm
    have next : ∀ (w2 : World) (c2 : CacheG) (r2 : RefG), Own w0 Im w2 (c2.H ++ (c2.d.L ++ (r2.L ++ [(b47, Obj.cells (opC op).toArray 44 (0, 0))]))) → CacheOk c2 → RefOk r2 → Same c2 r2 → c2.cb = c.cb → c2.d.db = c.d.db → r2.rb = r.rb → r2.gone.length + r2.E.length ≤ i + 1 → r2.last ≤ i + 1 → ∀ x, x = IntKind.wrap .i64 (((i : Nat) : Int) + 1) →
        ∃ m2, m2 < ops.length - i ∧ ∃ (k : Nat) (c : CacheG) (r : RefG), m2 = ops.length - k ∧ x = k ∧ k ≤ ops.length ∧ Own w0 Im w2 (c.H ++ (c.d.L ++ (r.L ++ []))) ∧ CacheOk c ∧ RefOk r ∧ Same c r ∧ c.cb = cb ∧ c.d.db = d.db ∧ r.rb = rb ∧ r.gone.length + r.E.length ≤ k ∧ r.last ≤ k := by
      intro w2 c2 r2 ho h1 h2 h3 h4 h5 h6 h7 h8 x hx
      rw [wrap_id (by omega) (by omega)] at hx
      exact ⟨_, by omega, i + 1, c2, r2, rfl, by omega, by omega, (ho.perm (pT c2 r2).symm).tail rfl, h1, h2, h3, h4.trans hcb, h5.trans hdb, h6.trans hrb, h7, by omega⟩
    have hgl : r.gone.length < 4398046502000 := by omega
    have hwl : c.d.waits.length = r.gone.length := by rw [hs.gone]; simp
    have hnd := hc.nd
    have hcl : c.last = r.last := hs.last.symm
    have hlo := hc.lo
    refine ⟨_, tmp h49t 0, fun _ => ?_, fun _ => ⟨fun _ => ?_, fun _ => ⟨fun _ => ?_, fun _ => ⟨fun _ => ?_, fun _ => ⟨fun _ => ?_, fun _ => ?_⟩⟩⟩⟩⟩
    · -- Look
      refine ⟨_, _, tmpK h49t, ?_⟩
      refine at_cb hcb ?_
      refine s13 h49t hc op.key fun w55 h55 => ⟨_, _, rfl, _, _, tmpK h55, ?_⟩
      refine at_cb hrb ?_
      refine s14 (toR h55) hr op.key fun w61 h61 => ⟨_, _, rfl, fun e => ?_, fun _ => ⟨fun e => ?_, fun _ => ?_⟩⟩
      · rw [hs.E] at e; exact absurd rfl e
      · rw [hs.E] at e; simp at e
      · exact next w61 c r (ofR h61) hc hr hs rfl rfl rfl (by omega) (by omega)
    · -- Put
      have h49d := h49t.drew
      refine ⟨_, _, tmpK h49d, _, tmp h49d _, _, _, tmpK h49d, _, tmp h49d _, ?_⟩
      refine at_cb hcb ?_
      refine s15 h49d hc (by omega) (by omega) op.key op.ino (fun hneg w72 h72 => ⟨_, rfl, tmp h72 _, tmpK h72, ?_⟩) fun w72 c2 hpos h72 hc2 ht => ⟨_, rfl, tmp h72 _, tmpK h72, ?_⟩
      · refine at_cb hrb ?_
        refine s16 (toR h72) hr (by omega) (by omega) (by omega) (by rw [hs.room]; exact hc.rlo) (by rw [hs.room]; exact hc.rhi) (by rw [hs.room, hs.E]; exact hc.full) op.key op.ino (fun _ w74 h74 => ⟨_, rfl, fun e => absurd rfl e, fun _ => ?_⟩) fun w74 r2 hpos => absurd hneg (by omega)
        exact next w74 c r (ofR h74) hc hr hs rfl rfl rfl (by omega) (by omega)
      · refine at_cb hrb ?_
        refine s16 (toR h72) hr (by omega) (by omega) (by omega) (by rw [hs.room]; exact hc.rlo) (by rw [hs.room]; exact hc.rhi) (by rw [hs.room, hs.E]; exact hc.full) op.key op.ino (fun hneg => absurd hneg (by omega)) fun w74 r2 _ h74 hr2 ht2 => ⟨_, rfl, fun e => absurd rfl e, fun _ => ?_⟩
        rw [hs.E, hs.room, hs.last] at ht2
        have hpl := putE_len c.E c.room op.key hnd
        refine next w74 c2 r2 (ofR h74) hc2 hr2 (hs.turn ht ht2) ht.cb ht.db ht2.rb ?_ ?_
        · rw [ht2.gone, ht2.E]
          rw [hs.E] at hcnt
          simp only [List.length_append, List.length_cons, List.length_nil]; omega
        · rw [ht2.last]; omega
    · -- Forget
      have h49d := h49t.drew
      refine ⟨_, _, tmpK h49d, _, _, tmpK h49d, ?_⟩
      refine at_cb hcb ?_
      refine s17 h49d hc (by omega) op.key (fun hn w82 h82 => ⟨_, rfl, tmpK h82, ?_⟩) fun w82 c2 x hx h82 hc2 ht => ⟨_, rfl, tmpK h82, ?_⟩
      · refine at_cb hrb ?_
        refine s18 (toR h82) hr (by omega) op.key (fun _ w84 h84 => ⟨_, rfl, fun e => (by cases e), fun _ => ?_⟩) fun w84 r2 x hx => (by rw [hs.E, hn] at hx; cases hx)
        exact next w84 c r (ofR h84) hc hr hs rfl rfl rfl (by omega) (by omega)
      · refine at_cb hrb ?_
        refine s18 (toR h82) hr (by omega) op.key (fun hn => by rw [hs.E, hx] at hn; cases hn) fun w84 r2 x2 hx2 h84 hr2 ht2 => ⟨_, rfl, fun e => (by cases e), fun _ => ?_⟩
        rw [hs.E, hx] at hx2
        cases hx2
        rw [hs.E, hs.last] at ht2
        have hll := lessK_len1 hnd hx
        refine next w84 c2 r2 (ofR h84) hc2 hr2 (hs.turn ht ht2) ht.cb ht.db ht2.rb ?_ ?_
        · rw [ht2.gone, ht2.E]
          rw [hs.E] at hcnt
          simp only [List.length_append, List.length_cons, List.length_nil]; omega
        · rw [ht2.last]; omega
    · -- ForgetDir
      have h49d := h49t.drew
      refine ⟨_, tmp h49d _, _, tmp h49d _, ?_⟩
      refine at_cb hcb ?_
      refine s19 h49d hc (by omega) op.key.1 fun w90 c2 h90 hc2 ht => ⟨_, rfl, tmp h90 _, ?_⟩
      refine at_cb hrb ?_
      refine s20 (toR h90) hr hgl op.key.1 fun w92 r2 h92 hr2 ht2 => ⟨_, rfl, fun e => ?_, fun _ => ?_⟩
      · rw [hs.E] at e; exact absurd rfl e
      · rw [hs.E, hs.last] at ht2
        have hdl := dirE_len c.E op.key.1
        refine next w92 c2 r2 (ofR h92) hc2 hr2 (hs.turn ht ht2) ht.cb ht.db ht2.rb ?_ ?_
        · rw [ht2.gone, ht2.E]
          rw [hs.E] at hcnt
          simp only [List.length_append]; omega
        · rw [ht2.last]; omega
    · -- what waits
      refine at_cb hdb ?_
      have pW : (c.H ++ (c.d.L ++ (r.L ++ [(b47, Obj.cells (opC op).toArray 44 (0, 0))]))).Perm (c.d.L ++ (c.H ++ (r.L ++ [(b47, Obj.cells (opC op).toArray 44 (0, 0))]))) := perm_l c.H c.d.L _
      refine s21 (h49t.perm pW) hc.dom (by omega) fun w96 x h96 hx => ⟨_, _, _, rfl, ?_⟩
      have pX : (vecL 3 x ++ (c.d.L ++ (c.H ++ (r.L ++ [(b47, Obj.cells (opC op).toArray 44 (0, 0))])))).Perm (r.L ++ (vecL 3 x ++ (c.d.L ++ (c.H ++ [(b47, Obj.cells (opC op).toArray 44 (0, 0))])))) :=
        (List.Perm.append_left _ (perm_ref c.d.L c.H r.L _)).trans (perm_l (vecL 3 x) r.L _)
      have h96r := h96.perm pX
      have hend : ∀ {w'}, Own w0 Im w' (r.L ++ (vecL 3 x ++ (c.d.L ++ (c.H ++ [(b47, Obj.cells (opC op).toArray 44 (0, 0))])))) → Own w0 Im w' (c.H ++ (c.d.L ++ (r.L ++ [(b47, Obj.cells (opC op).toArray 44 (0, 0))]))) := fun h => ((h.perm pX.symm).sub (List.sublist_append_right _ _)).perm pW.symm
      rw [← hrb]
      refine ⟨_, _, _, h96r.cell 0 rfl _, fun e => absurd (by rw [hwl]) e, fun _ => ?_⟩
      refine ⟨fun m v w' => ∃ j : Nat, m = r.gone.length - j ∧ v = j ∧ j ≤ r.gone.length ∧ Own w0 Im w' (r.L ++ (vecL 3 x ++ (c.d.L ++ (c.H ++ [(b47, Obj.cells (opC op).toArray 44 (0, 0))])))), ⟨_, 0, rfl, rfl, by omega, h96r⟩, ?_⟩
      rintro m v w101 ⟨j, rfl, rfl, hj, h101⟩
      refine ⟨fun hlt => ?_, fun hge => ?_⟩
      · have hj' : j < r.gone.length := by omega
        have ej : ((j : Nat) : Int).toNat = j := by omega
        have h101 := h101.drew
        obtain ⟨g, eg, hcell⟩ := vec_at (e := 3) h101 (fun p hp => by simp [hp]) hx (j := j) (u := .int .i64 r.gone[j]) (by rw [← hs.gone]; simp [i64s, hj'])
        obtain ⟨g2, eg2, hcell2⟩ := vecE_cell1 (f := fun a : Int => Value.int .i64 a) (e := 3) h101 (fun p hp => by simp [RefG.L, hp]) hr.gv hj'
        refine ⟨_, _, eg, by omega, hlt, r.gone[j], by rw [ej, Nat.zero_add]; exact hcell, _, _, _, h101.cell 0 rfl _, _, _, eg2, by omega, by omega, r.gone[j], by rw [ej, Nat.zero_add]; exact hcell2, fun e => absurd rfl e, fun _ r109 e109 => ?_⟩
        rw [wrap_id (by omega) (by omega)] at e109
        exact ⟨_, by omega, j + 1, rfl, by omega, by omega, h101⟩
      · intro x111 e111
        rw [hrb]
        exact next w101 c r (hend h101) hc hr hs rfl rfl rfl (by omega) (by omega) x111 e111
    · exact next w49 c r h49t hc hr hs rfl rfl rfl (by omega) (by omega)
end
end Go.Proofs.YtimokldcmpbjcaaDoor
