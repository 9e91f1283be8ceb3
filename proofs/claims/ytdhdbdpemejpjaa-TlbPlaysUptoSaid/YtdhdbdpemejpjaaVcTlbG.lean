/- A part of the proof: lemmas. -/
import Derived.Test.YtdhdbdpemejpjaaVcTlbF
import Derived.Test.YtdhdbdpemejpjaaVcIn
namespace Go.Proofs.Ytdhdbdpemejpjaa
open Go Go.Vc
set_option maxRecDepth 100000
set_option linter.unusedVariables false

/-- A call. -/
structure Op where
  kind : Int
  hart : Int
  key : Key
  entry : Int
  n : Int
  ta : Option Addr
  tl : Nat
  tc : Nat
def opC (o : Op) : List Value := [.int .i64 o.kind, .int .i64 o.hart, .int .i64 o.key.1, .int .i64 o.key.2, .int .u32 o.entry, .int .i64 o.n, .slice o.ta o.tl o.tc]
theorem filter_at {α : Type} {p : α → Bool} {l : List α} {i : Nat} (hi : i < l.length) (h : p l[i] = true) : ∃ hk : ((l.take i).filter p).length < (l.filter p).length, (l.filter p)[((l.take i).filter p).length] = l[i] := by
  have e : l.filter p = (l.take i).filter p ++ l[i] :: (l.drop (i + 1)).filter p := by
    conv => lhs; rw [← List.take_append_drop i l, List.drop_eq_getElem_cons hi]
    rw [List.filter_append, List.filter_cons, if_pos h]
  have hk : ((l.take i).filter p).length < (l.filter p).length := by rw [e]; simp
  refine ⟨hk, ?_⟩
  have h2 : (l.filter p)[((l.take i).filter p).length]? = some l[i] := by
    rw [e, List.getElem?_append_right (Nat.le_refl _), Nat.sub_self]; rfl
  exact Option.some.inj ((List.getElem?_eq_getElem hk).symm.trans h2)

section
variable {w0 w : World} {Im : Mem} {Fr L : List (Nat × Obj)} {t : TlbG} {R : Ending → World → Prop}

/-- lives -/
theorem s8 (h : Own w0 Im w L) (hR : ∀ w', Own w0 Im w' L → R (.returned (.bool true)) w') : Calls Try.prog 8 #[] w R := by
  apply vc8
  unfold Vc8
  refine s7 h (fun e => by omega) fun w3 t _ _ _ _ h3 ht hsz hEs hb hsh => ⟨_, _, rfl, fun e => absurd rfl e, fun _ => ⟨fun e => (by cases e), fun _ => ?_⟩⟩
  have e0 : t.Es = [[], []] := hEs
  refine s9 (k := ((1 : Int), (5 : Int))) (entry := 7) h3 ht (fun hn => by rw [e0] at hn; exact absurd ⟨by decide, by decide⟩ hn) fun w6 t1 _ _ h6 ht1 hT1 => ⟨_, rfl, ?_⟩
  have e1 : t1.Es = [[(((1 : Int), (5 : Int)), 7)], []] := by rw [hT1.Es, e0, hsz]; rfl
  refine at_cb (n := t1.tb) hT1.tb ?_
  refine s9 (k := ((1 : Int), (6 : Int))) (entry := 8) h6 ht1 (fun hn => by rw [e1] at hn; exact absurd ⟨by decide, by decide⟩ hn) fun w9 t2 _ _ h9 ht2 hT2 => ⟨_, rfl, ?_⟩
  have e2 : t2.Es = [[(((1 : Int), (5 : Int)), 7), (((1 : Int), (6 : Int)), 8)], []] := by rw [hT2.Es, e1, hT1.size, hsz]; rfl
  refine at_cb (n := t2.tb) (hT2.tb.trans hT1.tb) ?_
  refine s9 (k := ((2 : Int), (5 : Int))) (entry := 9) h9 ht2 (fun hn => by rw [e2] at hn; exact absurd ⟨by decide, by decide⟩ hn) fun w12 t3 _ _ h12 ht3 hT3 => ⟨_, rfl, fun b14 w15 e14 e15 => ?_⟩
  have e3 : t3.Es = [[(((1 : Int), (6 : Int)), 8), (((2 : Int), (5 : Int)), 9)], []] := by rw [hT3.Es, e2, hT2.size, hT1.size, hsz]; rfl
  have tb3 : t3.tb = t.tb := hT3.tb.trans (hT2.tb.trans hT1.tb)
  have h15 := h12.alloc' e14 e15
  have h15 := h15.perm (List.perm_middle (l₁ := t3.L)).symm
  have hb3 : t3.begun = 0 := by rw [hT3.begun, hT2.begun, hT1.begun, hb]
  have hs3 : t3.sh = fun _ => none := by rw [hT3.sh, hT2.sh, hT1.sh, hsh]
  refine at_cb (n := t3.tb) tb3 ?_
  have hrd : Reads w0 Im (some ⟨b14, 0, none⟩) [0] ((b14, .cells #[.int .i64 0] 3 (0, 0)) :: L) := by
    intro w' A ho j x hj
    refine ⟨b14, 0, rfl, ?_⟩
    rw [cell_of (ho.mem (b := b14) (o := .cells #[.int .i64 0] 3 (0, 0)) (by simp))]
    match j with
    | 0 => simpa using hj
    | j + 1 => simp at hj
  have hok : okTs t3.Es.length [0] := by rw [e3]; decide
  have H := fun R hbad hfull hR => s10 (R := R) (space := 1) (a := some ⟨b14, 0, none⟩) (c := 1) (ts := [0]) h15 ht3 hrd (by decide) hbad hfull hR
  refine H _ (fun hn => absurd hok hn) (fun _ hf => by rw [hb3] at hf; exact absurd hf (by decide)) fun w18 t4 _ _ h18 ht4 hT4 => ?_
  rw [hb3, hs3] at hT4
  rw [hb3]
  have hs4 : t4.sh 1 = some ⟨1, fun j => decide ((j : Int) ∈ [(0 : Int)])⟩ := by rw [hT4.sh]; rfl
  refine ⟨_, _, rfl, fun _ => ⟨fun _ => ?_, fun e => absurd rfl e⟩, fun e => absurd rfl e⟩
  have tb4 : t4.tb = t.tb := hT4.tb.trans tb3
  refine at_cb (n := t4.tb) tb4 ?_
  refine s12 h18 ht4 fun w21 h21 => ⟨_, rfl, fun e => ?_, fun _ => ?_⟩
  · rw [hs4] at e; simp at e
  refine at_cb (n := t4.tb) tb4 ?_
  have e4 : t4.Es = [[(((1 : Int), (6 : Int)), 8), (((2 : Int), (5 : Int)), 9)], []] := hT4.Es.trans e3
  refine s13 h21 ht4 (fun hn => by rw [e4] at hn; exact absurd ⟨by decide, by decide⟩ hn) fun w24 t5 ps _ _ hps h24 ht5 hT5 => ?_
  have hps1 : ps = [1] := by
    have hm : ∀ id, id ∈ ps ↔ id = 1 := fun id => by
      rw [hps.iff]
      constructor
      · rintro ⟨s, hs, _⟩
        rw [hT4.sh] at hs
        unfold startSh at hs
        split at hs
        · rename_i h; exact h.1
        · cases hs
      · rintro rfl
        exact ⟨_, hs4, rfl⟩
    have hup := hps.up
    match ps, hm, hup with
    | [], hm, _ => exact absurd ((hm 1).2 rfl) (by simp)
    | [a], hm, _ => rw [(hm a).1 (by simp)]
    | a :: b :: l, hm, hup =>
      have ha := (hm a).1 (by simp)
      have hb := (hm b).1 (by simp)
      rw [ha, hb] at hup
      simp at hup
  subst hps1
  refine ⟨_, rfl, fun _ => ?_, fun e => absurd rfl e⟩
  have tb5 : t5.tb = t.tb := hT5.tb.trans tb4
  refine at_cb (n := t5.tb) tb5 ?_
  have hs5 : t5.sh 1 = none := by
    rw [hT5.sh]
    unfold handleSh
    rw [if_pos (by simp), hs4]
    rfl
  have hb5 : t5.begun = 1 := by rw [hT5.begun, hT4.begun]; rfl
  refine s12 h24 ht5 fun w27 h27 => ?_
  rw [hs5, hb5]
  refine ⟨_, rfl, fun _ => ?_, fun e => (by cases e)⟩
  refine at_cb (n := t5.tb) tb5 ?_
  have e5 : hartE t5.Es 0 = [(((2 : Int), (5 : Int)), 9)] := by
    rw [hT5.Es, e4]
    unfold handleE
    simp only [List.foldl_cons, List.foldl_nil]
    have : spaceOf t4.sh 1 = 1 := by unfold spaceOf; rw [hs4]; rfl
    rw [this]; rfl
  refine s14 h27 ht5 fun w30 x h30 hx => ?_
  rw [e5] at hx ⊢
  refine ⟨_, _, _, rfl, hR w30 (h30.sub ?_)⟩
  exact ((List.sublist_cons_self _ _).trans (List.sublist_append_right _ _)).trans (List.sublist_append_right _ _)

theorem opKey {a : Option Addr} {l : Nat} {ops : List Op} (hops : InE Im opC 7 a l ops) {w' : World} {L' : List (Nat × Obj)} (h : Own w0 Im w' L') {i : Nat} (hi : i < ops.length) {b o : Nat} (ea : a = some ⟨b, o, none⟩) :
    (∀ k, k < 7 → w'.cell? ⟨b, o + i * 7 + k, none⟩ = (opC ops[i])[k]?) ∧ CellsAt w' ⟨b, o + i * 7 + 2, none⟩ (keyC ops[i].key) ∧ CellsAt w' ⟨b, o + i * 7, none⟩ (opC ops[i]) := by
  obtain ⟨b', o', ea', h1, h2⟩ := hops.get h hi
  rw [ea] at ea'
  simp only [Option.some.injEq, Addr.mk.injEq] at ea'
  obtain ⟨rfl, rfl, _⟩ := ea'
  refine ⟨h2, fun j v hj => ?_, h1⟩
  rw [add_none]
  match j with
  | 0 => have := h2 2 (by simp [opC]); rw [show o + i * 7 + 2 + 0 = o + i * 7 + 2 from rfl, this]; simpa [opC, keyC] using hj
  | 1 => have := h2 3 (by simp [opC]); rw [show o + i * 7 + 2 + 1 = o + i * 7 + 3 from rfl, this]; simpa [opC, keyC] using hj
  | j + 2 => simp [keyC] at hj

/-- The law TlbForgets. -/
theorem s5 (h : Own w0 Im w []) {a : Option Addr} {l k : Nat} {ops : List Op} (hops : InE Im opC 7 a l ops) (hl : l ≤ 4611686018427387904) {space : Int}
    (hR : ∀ w', Own w0 Im w' [] → R (.returned (.bool true)) w') : Calls Try.prog 5 #[.slice a l k, .int .i64 space] w R := by
  apply vc5
  unfold Vc5
  have hlen := hops.len
  have hdone : ∀ w' L, Own w0 Im w' L → R (.returned (.bool true)) w' := fun w' L ho => hR w' (ho.sub (List.nil_sublist _))
  refine s7 h (fun e => by omega) fun w5 t _ _ _ _ h5 ht hsz hEs hb hsh => ⟨_, _, rfl, fun e => absurd rfl e, fun _ => ⟨fun e => (by cases e), fun _ => ?_⟩⟩
  refine s8 h5 fun w8 h8 => ⟨_, rfl, fun _ => ?_, fun e => (by cases e)⟩
  have hl4 : t.Es.length = 4 := by rw [hEs]; rfl
  refine ⟨fun w' => ∃ t' : TlbG, Own w0 Im w' (t'.L ++ []) ∧ TlbOk t' ∧ t'.tb = t.tb ∧ t'.Es.length = 4, ?_, ?_⟩
  · rintro w10 ⟨t1, h10, ht1, htb1, hlE1⟩
    refine ⟨fun m v w' => ∃ (j : Nat) (t' : TlbG), m = 4 - j ∧ v = j ∧ j ≤ 4 ∧ Own w0 Im w' (t'.L ++ []) ∧ TlbOk t' ∧ t'.tb = t.tb ∧ t'.Es.length = 4, ⟨_, 0, t1, rfl, rfl, by omega, h10, ht1, htb1, hlE1⟩, ?_⟩
    rintro m v w13 ⟨j, t2, rfl, rfl, hj, h13, ht2, htb2, hlE2⟩
    refine ⟨fun hlt => ?_, fun hge => hdone _ _ h13⟩
    have hjE : j < t2.Es.length := by omega
    have hEj : hartE t2.Es (j : Int) = t2.Es[j] := by
      obtain ⟨q, hq⟩ := hartE_at (Es := t2.Es) (h := (j : Int)) (by omega) (by omega)
      rw [hq]; congr 1
    generalize hE : t2.Es[j] = E at hEj
    refine at_cb (n := t2.tb) htb2 ?_
    refine s14 h13 ht2 fun w15 x h15 hx => ⟨_, _, _, rfl, ?_⟩
    rw [hEj] at hx ⊢
    refine at_cb (n := t2.tb) htb2 ?_
    refine s15 (Fr := vecL 31 x ++ []) (h15.perm (perm_l (vecL 31 x) t2.L [])) ht2 fun w18 t3 h18 ht3 hT3 => ⟨_, rfl, ?_⟩
    rw [hEj]
    have htb3 : t3.tb = t.tb := hT3.tb.trans htb2
    have hlE3 : t3.Es.length = 4 := by
      rw [hT3.Es]; unfold flushEs; split
      · rw [List.length_set]; exact hlE2
      · exact hlE2
    have hE3 : hartE t3.Es (j : Int) = keepE E space := by
      rw [hT3.Es]
      unfold flushEs
      rw [if_pos ⟨by omega, by omega⟩, hEj]
      obtain ⟨q, hq⟩ := hartE_at (Es := t2.Es.set ((j : Nat) : Int).toNat (keepE E space)) (h := (j : Int)) (by omega) (by rw [List.length_set]; omega)
      rw [hq]
      simp
    refine at_cb (n := t3.tb) htb3 ?_
    refine s14 h18 ht3 fun w21 y h21 hy => ⟨_, _, _, rfl, ?_⟩
    rw [hE3] at hy ⊢
    have hkl : (keepE E space).length ≤ E.length := List.length_filter_le _ _
    have hsm : E.length ≤ maxLen := by have h1 := hx.cap; have h2 := hx.cap2; rw [List.length_map] at h1; omega
    simp only [maxLen] at hsm
    -- what was kept, one by one
    obtain ⟨ks, hks⟩ : ∃ ks : List Key, ks = E.map (·.1) := ⟨_, rfl⟩
    have hkeys : (keepE E space).map (·.1) = ks.filter fun k => !decide (k.1 = space) := by unfold keepE; rw [hks, List.filter_map]; rfl
    have hEl : ks.length = E.length := by rw [hks]; simp
    have hKl : (ks.filter fun k => !decide (k.1 = space)).length = (keepE E space).length := by rw [← hkeys, List.length_map]
    rw [← hks] at hx
    rw [hkeys] at hy
    have next : ∀ w', Own w0 Im w' (vecL 31 y ++ (t3.L ++ (vecL 31 x ++ []))) → ∀ r, r = IntKind.wrap .i64 (((j : Nat) : Int) + 1) → ∃ m27, m27 < 4 - j ∧ ∃ (j : Nat) (t' : TlbG), m27 = 4 - j ∧ r = j ∧ j ≤ 4 ∧ Own w0 Im w' (t'.L ++ []) ∧ TlbOk t' ∧ t'.tb = t.tb ∧ t'.Es.length = 4 := by
      intro w' ho r hr
      rw [wrap_id (by omega) (by omega)] at hr
      refine ⟨_, by omega, j + 1, t3, rfl, by omega, by omega, ho.sub ?_, ht3, htb3, hlE3⟩
      exact ((List.sublist_append_right _ _).trans (List.Sublist.refl _) |>.trans (List.Sublist.refl _)) |> fun s => (List.Sublist.append (List.Sublist.refl t3.L) (List.nil_sublist _)).trans s
    refine ⟨fun v w' => v = ((keepE E space).length : Nat) ∧ Own w0 Im w' (vecL 31 y ++ (t3.L ++ (vecL 31 x ++ []))), ?_, ?_⟩
    · rintro v w24 ⟨rfl, h24⟩
      refine ⟨fun e => absurd rfl e, fun _ r25 e25 => ⟨fun e => ?_, fun _ => next w24 h24⟩⟩
      rw [wrap_id (by omega) (by omega)] at e25
      exact absurd e25.symm e
    · refine ⟨fun m v u w' => ∃ i : Nat, m = E.length - i ∧ u = i ∧ i ≤ E.length ∧ v = (((ks.take i).filter fun k => !decide (k.1 = space)).length : Nat) ∧ Own w0 Im w' (vecL 31 y ++ (t3.L ++ (vecL 31 x ++ []))), ⟨_, 0, rfl, rfl, by omega, by simp, h21⟩, ?_⟩
      rintro m v u w31 ⟨i, rfl, rfl, hi, rfl, h31⟩
      refine ⟨fun hlt => ?_, fun hge => ⟨?_, h31⟩⟩
      · have hi' : i < E.length := by omega
        have hi2 : i < ks.length := by omega
        have ei : ((i : Nat) : Int).toNat = i := by omega
        have hxm : ∀ p ∈ vecL 31 x, p ∈ vecL 31 y ++ (t3.L ++ (vecL 31 x ++ [])) := fun p hp => by simp [hp]
        obtain ⟨g, eg, hc⟩ := vecE_cell (e := 31) keyC_len h31 hxm hx hi2
        have hcs : ∀ {w' : World}, Own w0 Im w' (vecL 31 y ++ (t3.L ++ (vecL 31 x ++ []))) → CellsAt w' ⟨g, i * 2, none⟩ (keyC ks[i]) := fun {w'} ho => by
          obtain ⟨g', eg', hc'⟩ := vecE_at (e := 31) keyC_len ho hxm hx hi2
          rw [eg] at eg'
          have : g = g' := by simpa using eg'
          subst this; exact hc'
        have htk : (ks.take (i + 1)) = ks.take i ++ [ks[i]] := List.take_succ_eq_append_getElem hi2
        have hfl : ((ks.take i).filter fun k => !decide (k.1 = space)).length ≤ i := by
          have h1 := List.length_filter_le (fun k : Key => !decide (k.1 = space)) (ks.take i)
          have h2 : (ks.take i).length = i := by rw [List.length_take]; omega
          omega
        refine ⟨_, _, eg, by omega, hlt, ks[i].1, by rw [ei, Nat.zero_add]; exact hc 0 (by omega), fun hsp => ⟨by omega, hlt, ?_⟩, fun hsp => ?_⟩
        · refine ⟨ks[i].1, ks[i].2, by rw [ei, Nat.zero_add]; exact hcs h31, ?_⟩
          refine at_cb (n := t3.tb) htb3 ?_
          refine s16 (k := ks[i]) (Fr := vecL 31 y ++ (vecL 31 x ++ [])) (h31.perm (perm_l (vecL 31 y) t3.L _)) ht3 fun w39 h39 => ⟨_, _, rfl, fun e => ?_, fun _ r41 e41 => ?_⟩
          · rw [hE3, lookE_keep, if_pos hsp] at e; cases e
          · rw [wrap_id (by omega) (by omega)] at e41
            refine ⟨_, by omega, i + 1, rfl, by omega, by omega, ?_, h39.perm (perm_l (vecL 31 y) t3.L _).symm⟩
            rw [htk, List.filter_append]
            have : [ks[i]].filter (fun k => !decide (k.1 = space)) = [] := by rw [List.filter_cons, hsp]; simp
            rw [this, List.append_nil]
        · have hp : (fun k : Key => !decide (k.1 = space)) ks[i] = true := by simpa using hsp
          obtain ⟨hk, hke⟩ := filter_at (p := fun k : Key => !decide (k.1 = space)) hi2 hp
          have h31 := h31.drew
          refine ⟨fun e => by omega, fun _ => ?_⟩
          obtain ⟨g2, eg2, hc2⟩ := vecE_at (e := 31) keyC_len h31 (fun p hp => by simp [hp]) hy hk
          rw [hke] at hc2
          have ek2 : (((((ks.take i).filter fun k => !decide (k.1 = space)).length : Nat) : Int)).toNat = ((ks.take i).filter fun k => !decide (k.1 = space)).length := by omega
          refine ⟨_, _, eg2, by omega, by omega, by omega, hlt, _, _, by rw [ek2, Nat.zero_add]; exact hc2, ks[i].1, ks[i].2, by rw [ei, Nat.zero_add]; exact hcs h31, !decide (ks[i] = ks[i]), fun w' => key_guard _ _ w', fun w' => key_ne _ _ w', fun e => ?_, fun _ r50 e50 r51 e51 => ?_⟩
          · simp at e
          · rw [wrap_id (by omega) (by omega)] at e50 e51
            refine ⟨_, by omega, i + 1, rfl, by omega, by omega, ?_, h31⟩
            rw [htk, List.filter_append]
            have : [ks[i]].filter (fun k => !decide (k.1 = space)) = [ks[i]] := by rw [List.filter_cons, if_pos hp]; rfl
            rw [this, List.length_append]
            simp; omega
      · have e : i = E.length := by omega
        subst e
        rw [← hEl, List.take_length, hKl]
  · refine ⟨fun m v w' => ∃ (i : Nat) (t' : TlbG), m = ops.length - i ∧ v = i ∧ i ≤ ops.length ∧ Own w0 Im w' (t'.L ++ []) ∧ TlbOk t' ∧ t'.tb = t.tb ∧ t'.Es.length = 4, ⟨_, 0, t, rfl, rfl, by omega, h8, ht, rfl, hl4⟩, ?_⟩
    rintro m v w55 ⟨i, t1, rfl, rfl, hi, h55, ht1, htb1, hlE1⟩
    refine ⟨fun hlt => ?_, fun hge => ⟨t1, h55, ht1, htb1, hlE1⟩⟩
    have hi' : i < ops.length := by omega
    have ei : ((i : Nat) : Int).toNat = i := by omega
    obtain ⟨b56, o57, ea, _, _⟩ := hops.get h55 hi'
    have h55 := h55.drew
    obtain ⟨hc, hk, _⟩ := opKey hops h55 hi' ea
    refine ⟨_, _, ea, by omega, hlt, by omega, hlt, by omega, hlt, _, by rw [ei]; exact hc 1 (by omega), ops[i].key.1, ops[i].key.2, by rw [ei]; exact hk, _, by rw [ei]; exact hc 4 (by omega), ?_⟩
    refine at_cb (n := t1.tb) htb1 ?_
    refine s9 (k := ops[i].key) h55 ht1 (fun _ w63 h63 => ⟨_, rfl, fun r64 e64 => ?_⟩) fun w63 t2 _ _ h63 ht2 hT2 => ⟨_, rfl, fun r64 e64 => ?_⟩
    · rw [wrap_id (by omega) (by omega)] at e64
      exact ⟨_, by omega, i + 1, t1, rfl, by omega, by omega, h63, ht1, htb1, hlE1⟩
    · rw [wrap_id (by omega) (by omega)] at e64
      exact ⟨_, by omega, i + 1, t2, rfl, by omega, by omega, h63, ht2, hT2.tb.trans htb1, by rw [hT2.Es, List.length_set]; exact hlE1⟩
end
end Go.Proofs.Ytdhdbdpemejpjaa
