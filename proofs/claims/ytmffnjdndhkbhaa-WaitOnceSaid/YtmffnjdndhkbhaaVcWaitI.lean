/- A part of the proof: lemmas. -/
import Derived.Test.YtmffnjdndhkbhaaVcWaitH
namespace Go.Proofs.Ytmffnjdndhkbhaa
open Go Go.Vc
set_option maxRecDepth 100000
set_option linter.unusedVariables false

structure Op where
  kind : Int
  tid : Int
  oa : Option Addr
  ol : Nat
  oc : Nat
  frm : Chan
  to : Chan
  n : Int
def opC (o : Op) : List Value := [.int .i64 o.kind, .int .i64 o.tid, .slice o.oa o.ol o.oc, .int .i64 o.frm.1, .int .i64 o.frm.2.1, .int .i64 o.frm.2.2, .int .i64 o.to.1, .int .i64 o.to.2.1, .int .i64 o.to.2.2, .int .i64 o.n]
/-- Who sleeps, as the law writes it down. -/
structure SlOk (M : List (Ent Int)) (K : List Int) : Prop where
  nd : (M.map (·.1)).Nodup
  map : ∀ t, aget M t = if t ∈ K then some (.bool true) else none
theorem SlOk.len {M : List (Ent Int)} {K : List Int} (h : SlOk M K) (hK : K.Nodup) : M.length = K.length := by
  have : (M.map (·.1)).Perm K := (List.perm_ext_iff_of_nodup h.nd hK).2 fun t => by
    have := h.map t
    constructor
    · intro hm
      refine Classical.not_not.1 fun hk => ?_
      rw [if_neg hk] at this
      exact aget_none.1 this hm
    · intro hm
      refine Classical.not_not.1 fun hk => ?_
      rw [aget_none.2 hk, if_pos hm] at this
      cases this
  have := this.length_eq
  simpa using this
theorem SlOk.perm {M : List (Ent Int)} {K K' : List Int} (h : SlOk M K) (hp : ∀ t, t ∈ K ↔ t ∈ K') : SlOk M K' := ⟨h.nd, fun t => by
  rw [h.map t]
  by_cases ht : t ∈ K
  · rw [if_pos ht, if_pos ((hp t).1 ht)]
  · rw [if_neg ht, if_neg (fun h => ht ((hp t).2 h))]⟩
theorem SlOk.put {M : List (Ent Int)} {K : List Int} {clk : Nat} (h : SlOk M K) (t : Int) : SlOk (aput M clk t (.bool true)).1 (t :: K) := ⟨nodup_put h.nd, fun x => by
  rw [aget_put, h.map x]
  by_cases hx : x = t
  · rw [if_pos hx, if_pos (by simp [hx])]
  · rw [if_neg hx]
    by_cases hk : x ∈ K
    · rw [if_pos hk, if_pos (by simp [hk])]
    · rw [if_neg hk, if_neg (by simp [hk, hx])]⟩
theorem SlOk.del {M : List (Ent Int)} {K : List Int} (h : SlOk M K) (t : Int) : SlOk (adel M t) (cancelK K t) := ⟨nodup_del h.nd, fun x => by
  rw [aget_del, h.map x]
  unfold cancelK
  by_cases hx : x = t
  · rw [if_pos hx, if_neg (by simp [List.mem_filter, hx])]
  · rw [if_neg hx]
    by_cases hk : x ∈ K
    · rw [if_pos hk, if_pos (by simp [List.mem_filter, hk, hx])]
    · rw [if_neg hk, if_neg (by simp [List.mem_filter, hk])]⟩
theorem fold_cancelK_mem {K : List Int} (l : List Int) {t : Int} : t ∈ l.foldl cancelK K ↔ t ∈ K ∧ t ∉ l := by
  induction l generalizing K with
  | nil => simp
  | cons x l ih =>
    rw [List.foldl_cons, ih]
    unfold cancelK
    rw [List.mem_filter]
    simp
    constructor
    · rintro ⟨⟨a, b⟩, c⟩; exact ⟨a, b, c⟩
    · rintro ⟨a, b, c⟩; exact ⟨⟨a, b⟩, c⟩
section
variable {w0 w : World} {Im : Mem} {Fr L : List (Nat × Obj)} {q : QueueG} {R : Ending → World → Prop}
theorem sl_look {M : List (Ent Int)} {K : List Int} {b clk : Nat} (h : Own w0 Im w L) (hm : (b, mapObj (Vc.encI .i64) M clk) ∈ L) (hs : SlOk M K) (t : Int) :
    (Instr.lookup 26 (.map (some b)) (.int .i64 t) false).run Try.prog w = .ok (.bool (decide (t ∈ K))) w := by
  have := run_lookup (P := Try.prog) (t := 26) (K := 3) (E := 4) (enc := Vc.encI .i64) Try.underlying26 keyInt (w := w) (b := b) (M := M) (clk := clk) (h.mem hm) t false (z := .bool false) Try.type4 rfl
  rw [hs.map t] at this
  by_cases ht : t ∈ K
  · rw [if_pos ht] at this; rw [decide_eq_true ht]; exact this
  · rw [if_neg ht] at this; rw [decide_eq_false ht]; exact this
/-- The law WaitOnce. -/
theorem s3 (h : Own w0 Im w []) {a : Option Addr} {l k : Nat} {ops : List Op} (hops : InE Im opC 10 a l ops) (hl : l ≤ 4611686018427387904)
    (hons : ∀ o ∈ ops, o.tid ≤ 9223372036854775807 ∧ ∃ on, InE Im chanC 3 o.oa o.ol on ∧ on.length ≤ 4611686018427387904 ∧ on.length ≤ o.oc)
    (hR : ∀ w', Own w0 Im w' [] → R (.returned (.bool true)) w') : Calls Try.prog 3 #[.slice a l k] w R := by
  apply vc3
  unfold Vc3
  have hlen := hops.len
  have hdone : ∀ w' L, Own w0 Im w' L → R (.returned (.bool true)) w' := fun w' L ho => hR w' (ho.sub (List.nil_sublist _))
  refine s5 h fun w3 q h3 hq hS hO hK => ⟨_, rfl, ?_⟩
  refine s6 h3 fun w6 h6 => ⟨_, rfl, fun _ => ⟨fun e => (by cases e), fun _ b8 w9 e8 e9 => ?_⟩, fun e => (by cases e)⟩
  have h9 := h6.alloc' e8 e9
  have hst0 : SlOk [] q.K := ⟨List.nodup_nil, fun t => by rw [hK]; rfl⟩
  have h9m : Own w0 Im w9 (q.L ++ [(b8, mapObj (Vc.encI .i64) ([] : List (Ent Int)) 0)]) := h9.perm (by_count fun a => by
    simp only [List.count_append, List.count_cons, List.count_nil, mapObj, List.map_nil]; omega)
  have hKn : ∀ {q1 : QueueG}, QOk q1 → q1.K.Nodup := fun h => h.w.o.nd
  refine ⟨fun w' => ∃ (q1 : QueueG) (M : List (Ent Int)) (clk : Nat), Own w0 Im w' (q1.L ++ [(b8, mapObj (Vc.encI .i64) M clk)]) ∧ QOk q1 ∧ SlOk M q1.K ∧ q1.qb = q.qb, ?_, ?_⟩
  · rintro w10 ⟨q1, M, clk, h10, hq1, hM, eqb⟩
    rw [← eqb]
    refine s13 h10 hq1 fun w12 x h12 hx => ⟨_, _, _, rfl, ?_⟩
    have hKl : q1.K.length ≤ 64 := by
      have := hq1.w.few
      unfold QueueG.K; rw [List.length_map]; exact this
    have hsl : (q1.K.mergeSort fun x y => decide (x ≤ y)).length = q1.K.length := List.length_mergeSort _
    refine ⟨fun m v w' => ∃ j : Nat, m = q1.K.length - j ∧ v = j ∧ j ≤ q1.K.length ∧ Own w0 Im w' (vecL 3 x ++ (q1.L ++ [(b8, mapObj (Vc.encI .i64) M clk)])), ⟨_, 0, rfl, rfl, by omega, h12⟩, ?_⟩
    rintro m v w16 ⟨j, rfl, rfl, hj, h16⟩
    refine ⟨fun hlt => ?_, fun hge => ?_⟩
    · have hj' : j < q1.K.length := by omega
      have hx2 : VecE intC 1 x (q1.K.mergeSort fun x y => decide (x ≤ y)) := by
        unfold VecE
        rw [hsl]
        have e : ∀ l : List Int, l.flatMap intC = l.map (Value.int .i64 ·) := fun l => by
          induction l with
          | nil => rfl
          | cons a t ih => rw [List.flatMap_cons, ih]; rfl
        rw [e]; exact hx
      obtain ⟨g, eg, hc⟩ := int_at h16 (fun p hp => List.mem_append_left _ hp) hx2 (j := j) (by omega)
      have hin : (q1.K.mergeSort fun x y => decide (x ≤ y))[j]'(by omega) ∈ q1.K := (List.mergeSort_perm _ _).mem_iff.1 (List.getElem_mem _)
      have hlk := sl_look h16 (b := b8) (M := M) (clk := clk) (by simp) hM ((q1.K.mergeSort fun x y => decide (x ≤ y))[j]'(by omega))
      rw [decide_eq_true hin] at hlk
      refine ⟨_, _, eg, by omega, hlt, _, hc, _, hlk, fun _ r21 e21 => ?_, fun e => (by cases e)⟩
      rw [wrap_id (by omega) (by omega)] at e21
      exact ⟨_, by omega, j + 1, rfl, by omega, by omega, h16⟩
    · refine s13 (h16.sub (List.sublist_append_right _ _)) hq1 fun w24 x2 h24 hx2 => ⟨_, _, _, rfl, _, Vc.run_len_map Try.underlying26 h24 (b := b8) (M := M) (clk := clk) (enc := Vc.encI .i64) (by simp), ?_⟩
      rw [hM.len (hKn hq1), decide_eq_true rfl]
      exact hdone _ _ h24
  · refine ⟨fun m v w' => ∃ (j : Nat) (q1 : QueueG) (M : List (Ent Int)) (clk : Nat), m = l - j ∧ v = j ∧ j ≤ l ∧ Own w0 Im w' (q1.L ++ [(b8, mapObj (Vc.encI .i64) M clk)]) ∧ QOk q1 ∧ SlOk M q1.K ∧ q1.qb = q.qb, ⟨_, 0, q, [], 0, rfl, rfl, by omega, h9m, hq, hst0, rfl⟩, ?_⟩
    rintro m v w29 ⟨j, q1, M, clk, rfl, rfl, hj, h29, hq1, hM, eqb⟩
    refine ⟨fun hlt => ?_, fun hge => ⟨q1, M, clk, h29, hq1, hM, eqb⟩⟩
    have hj' : j < ops.length := by omega
    obtain ⟨b, o, ea, hc, _⟩ := hops.get h29 hj'
    obtain ⟨htid, on, hon, honl, honc⟩ := hons ops[j] (List.getElem_mem hj')
    generalize hop : ops[j] = op at *
    refine ⟨_, _, ea, by omega, hlt, _, _, _, _, _, _, _, _, _, _, _, _, hc, fun b42 w43 e42 e43 => ?_⟩
    have h43 := h29.alloc' e42 e43
    refine ⟨h43.putOk 0 rfl (by simp), fun w44 e44 => ?_⟩
    have h44 := h43.putAll (cs := [.int .i64 0, .int .i64 0, .slice none 0 0, .int .i64 0, .int .i64 0, .int .i64 0, .int .i64 0, .int .i64 0, .int .i64 0, .int .i64 0]) (k := 0) rfl (opC op) rfl
    have e44' : w44 = putCells w43 ⟨b42, 0, none⟩ (opC op) 0 := e44
    rw [← e44'] at h44
    obtain ⟨B, hB⟩ : ∃ B : Nat × Obj, B = (b42, Obj.cells (opC op).toArray 31 (0, 0)) := ⟨_, rfl⟩
    have h44 : Own w0 Im w44 (B :: (q1.L ++ [(b8, mapObj (Vc.encI .i64) M clk)])) := by rw [hB]; exact h44
    have hcell : ∀ {w' : World} {l : List (Nat × Obj)}, Own w0 Im w' l → B ∈ l → ∀ i, w'.cell? ⟨b42, i, none⟩ = (#[.int .i64 op.kind, .int .i64 op.tid, .slice op.oa op.ol op.oc, .int .i64 op.frm.1, .int .i64 op.frm.2.1, .int .i64 op.frm.2.2, .int .i64 op.to.1, .int .i64 op.to.2.1, .int .i64 op.to.2.2, .int .i64 op.n] : Array Value)[i]? := fun h hm i => cell_of (cs := (opC op).toArray) (T := 31) (z := (0, 0)) (h.mem (by rw [← hB]; exact hm)) i
    have h44q : Own w0 Im w44 (q1.L ++ (B :: [(b8, mapObj (Vc.encI .i64) M clk)])) := h44.perm (List.perm_middle.symm)
    have mB : ∀ {l : List (Nat × Obj)} {M' : List (Ent Int)} {clk' : Nat}, B ∈ l ++ (B :: [(b8, mapObj (Vc.encI .i64) M' clk')]) := by simp
    have hdrop : ∀ {w' : World} {q2 : QueueG} {M' : List (Ent Int)} {clk' : Nat}, Own w0 Im w' (q2.L ++ (B :: [(b8, mapObj (Vc.encI .i64) M' clk')])) → Own w0 Im w' (q2.L ++ [(b8, mapObj (Vc.encI .i64) M' clk')]) := fun h => h.sub (List.Sublist.append_left (List.sublist_cons_self _ _) _)
    rw [← eqb]
    refine ⟨fun w' => ∃ (q2 : QueueG) (M' : List (Ent Int)) (clk' : Nat), Own w0 Im w' (q2.L ++ [(b8, mapObj (Vc.encI .i64) M' clk')]) ∧ QOk q2 ∧ SlOk M' q2.K ∧ q2.qb = q1.qb, ?_, ?_⟩
    · rintro w45 ⟨q2, M', clk', h45, hq2, hM', eqb2⟩
      rw [← eqb2]
      refine s12 h45 hq2.w ⟨_, rfl, _, Vc.run_len_map Try.underlying26 h45 (b := b8) (M := M') (clk := clk') (enc := Vc.encI .i64) (by simp), fun e => absurd (by rw [hM'.len (hKn hq2)]) e, fun _ r50 e50 => ?_⟩
      rw [wrap_id (by omega) (by omega)] at e50
      exact ⟨_, by omega, j + 1, q2, M', clk', rfl, by omega, by omega, h45, hq2, hM', rfl⟩
    · refine ⟨_, hcell h44q mB _, fun _ => ?_, fun _ => ⟨fun _ => ?_, fun _ => ⟨fun _ => ?_, fun _ => ⟨fun _ => ?_, fun _ => ⟨q1, M, clk, hdrop h44q, hq1, hM, rfl⟩⟩⟩⟩⟩
      · refine ⟨_, hcell h44q mB _, _, _, _, hcell h44q mB _, ?_⟩
        rw [hon.len]
        refine s7 (on := on) h44q hq1 (CReads.in hon) honl honc htid (fun hne w56 h56 => ⟨_, rfl, fun e => absurd e hne, fun _ => ⟨q1, M, clk, hdrop h56, hq1, hM, rfl⟩⟩) fun hz w56 q2 h56 hq2 ht2 => ⟨_, rfl, fun _ => ?_, fun e => absurd rfl e⟩
        have hnk : op.tid ∉ q1.K := fun hm => by
          unfold sleepE at hz
          split at hz
          · exact absurd hz (by decide)
          · split at hz
            · exact absurd hz (by decide)
            · exact absurd hz (by decide)
        have hlk := sl_look h56 (b := b8) (M := M) (clk := clk) (by simp) hM op.tid
        rw [decide_eq_false hnk] at hlk
        refine ⟨_, hcell h56 mB _, _, hlk, fun e => (by cases e), fun _ => ⟨_, hcell h56 mB _, ?_⟩⟩
        have h56m : Own w0 Im w56 ((b8, mapObj (Vc.encI .i64) M clk) :: q2.L) := (hdrop h56).perm List.perm_append_comm
        have hup := run_mapUpdate (P := Try.prog) (t := 26) (enc := Vc.encI .i64) Try.underlying26 keyInt hM.nd (h56m.get 0 rfl) op.tid (.bool true)
        have h61 : Own w0 Im _ ((b8, mapObj (Vc.encI .i64) (aput M clk op.tid (.bool true)).1 (aput M clk op.tid (.bool true)).2) :: q2.L) := h56m.setObj 0 rfl
        exact ⟨_, hup, q2, _, _, h61.perm (List.perm_append_comm (l₁ := [_]) (l₂ := q2.L)), hq2, (hM.put op.tid).perm fun t => ht2.K.mem_iff.symm, ht2.qb⟩
      · refine ⟨_, _, _, cellsAt3 (hcell h44q mB _) (hcell h44q mB _) (hcell h44q mB _), ?_⟩
        refine s8 (c := op.frm) h44q hq1.w fun w66 x h66 hx => ⟨_, _, _, rfl, ?_⟩
        have h66 := h66.sub (List.sublist_append_right (vecL 3 x) _)
        refine ⟨_, _, _, cellsAt3 (hcell h66 mB _) (hcell h66 mB _) (hcell h66 mB _), _, hcell h66 mB _, ?_⟩
        refine s9 (c := op.frm) (n := op.n) h66 hq1 fun w73 q2 y h73 hq2 ht2 hy => ⟨_, _, _, rfl, ?_⟩
        obtain ⟨tl, htl⟩ : ∃ tl, tl = (q1.S op.frm).take op.n.toNat := ⟨_, rfl⟩
        have htll : tl.length = min op.n.toNat (q1.S op.frm).length := by rw [htl, List.length_take]
        have hsl := hq1.sleepers op.frm
        have htlK : ∀ t ∈ tl, t ∈ q1.K := fun t ht => (hq1.some t).2 (fun e => by
          have h1 : t ∈ q1.S op.frm := by rw [htl] at ht; exact List.mem_of_mem_take ht
          have := (hq1.both t op.frm).1 h1
          rw [e] at this; cases this)
        have htln : tl.Nodup := by rw [htl]; exact (hq1.one op.frm).sublist (List.take_sublist _ _)
        rw [← htl] at hy ht2 ⊢
        refine ⟨_, hcell h73 (by simp) _, fun r76 e76 r77 e77 => ⟨fun e => absurd (by omega) e, fun _ => ?_⟩⟩
        have h73 : Own w0 Im w73 ((b8, mapObj (Vc.encI .i64) M clk) :: (vecL 3 y ++ q2.L)) := (h73.perm (L' := B :: ((b8, mapObj (Vc.encI .i64) M clk) :: (vecL 3 y ++ q2.L))) (by_count fun a => by
          simp only [List.count_append, List.count_cons, List.count_nil]; omega)).tail rfl
        refine ⟨fun m v w' => ∃ (i : Nat) (M' : List (Ent Int)), m = tl.length - i ∧ v = i ∧ i ≤ tl.length ∧ Own w0 Im w' ((b8, mapObj (Vc.encI .i64) M' clk) :: (vecL 3 y ++ q2.L)) ∧ SlOk M' ((tl.take i).foldl cancelK q1.K), ⟨_, 0, M, rfl, rfl, by omega, h73, hM⟩, ?_⟩
        rintro m v w80 ⟨i, M', rfl, rfl, hi, h80, hM'⟩
        refine ⟨fun hlt2 => ?_, fun hge => ?_⟩
        · have hi' : i < tl.length := by omega
          obtain ⟨g, eg, hcg⟩ := int_at h80 (fun p hp => by simp [hp]) hy hi'
          have hlk := sl_look h80 (b := b8) (M := M') (clk := clk) (by simp) hM' tl[i]
          have hnt : tl[i] ∉ tl.take i := fun hm => by
            obtain ⟨i2, hi2, e⟩ := List.mem_iff_getElem.1 hm
            rw [List.length_take] at hi2
            rw [List.getElem_take] at e
            exact absurd ((List.getElem_inj htln).1 e) (by omega)
          rw [decide_eq_true ((fold_cancelK_mem _).2 ⟨htlK _ (List.getElem_mem hi'), hnt⟩)] at hlk
          refine ⟨_, _, eg, by omega, hlt2, _, hcg, _, hlk, fun _ => ?_, fun e => (by cases e)⟩
          have hdl := run_delete (P := Try.prog) (t := 26) (u := 3) (ty := 0) (enc := Vc.encI .i64) Try.underlying26 keyInt hM'.nd (h80.get 0 rfl) tl[i]
          refine ⟨_, hdl, fun r86 e86 => ?_⟩
          rw [wrap_id (by omega) (by omega)] at e86
          refine ⟨_, by omega, i + 1, _, rfl, by omega, by omega, h80.setObj 0 rfl (o' := mapObj (Vc.encI .i64) (adel M' tl[i]) clk), ?_⟩
          rw [List.take_succ_eq_append_getElem hi', List.foldl_append]
          exact hM'.del tl[i]
        · have hi' : i = tl.length := by omega
          rw [hi', List.take_length] at hM'
          refine ⟨q2, M', clk, ?_, hq2, hM'.perm fun t => ht2.K.mem_iff.symm, ht2.qb⟩
          exact (h80.perm (L' := vecL 3 y ++ (q2.L ++ [(b8, mapObj (Vc.encI .i64) M' clk)])) (by_count fun a => by
            simp only [List.count_append, List.count_cons, List.count_nil]; omega)).sub (List.sublist_append_right _ _)
      · have hd := h44q.drew
        refine ⟨_, hcell hd mB _, _, hcell hd mB _, _, sl_look hd (b := b8) (M := M) (clk := clk) (by simp) hM op.tid, ?_⟩
        refine s10 (tid := op.tid) hd hq1 fun w92 q2 h92 hq2 ht2 => ⟨_, rfl, sl_look h92 (b := b8) (M := M) (clk := clk) (by simp) hM op.tid, hcell h92 mB _, fun e => ?_, fun _ => ⟨_, hcell h92 mB _, ?_⟩⟩
        · simp at e
        · have h92m : Own w0 Im w92 ((b8, mapObj (Vc.encI .i64) M clk) :: q2.L) := (hdrop h92).perm List.perm_append_comm
          have hdl := run_delete (P := Try.prog) (t := 26) (u := 3) (ty := 0) (enc := Vc.encI .i64) Try.underlying26 keyInt hM.nd (h92m.get 0 rfl) op.tid
          have h94 : Own w0 Im _ ((b8, mapObj (Vc.encI .i64) (adel M op.tid) clk) :: q2.L) := h92m.setObj 0 rfl
          exact ⟨_, hdl, q2, _, _, h94.perm (List.perm_append_comm (l₁ := [_]) (l₂ := q2.L)), hq2, (hM.del op.tid).perm fun t => ht2.K.mem_iff.symm, ht2.qb⟩
      · refine ⟨_, _, _, cellsAt3 (hcell h44q mB _) (hcell h44q mB _) (hcell h44q mB _), _, _, _, cellsAt3 (hcell h44q mB _) (hcell h44q mB _) (hcell h44q mB _), _, hcell h44q mB _, ?_⟩
        refine s11 (from' := op.frm) (to := op.to) (n := op.n) h44q hq1 (fun _ w103 h103 => ⟨_, rfl, q1, M, clk, hdrop h103, hq1, hM, rfl⟩) fun _ w103 q2 h103 hq2 ht2 => ⟨_, rfl, q2, M, clk, hdrop h103, hq2, hM.perm fun t => ht2.K.mem_iff.symm, ht2.qb⟩
end
end Go.Proofs.Ytmffnjdndhkbhaa
