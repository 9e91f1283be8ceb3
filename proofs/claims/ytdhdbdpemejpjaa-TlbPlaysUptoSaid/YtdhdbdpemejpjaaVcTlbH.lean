/- A part of the proof: lemmas. -/
import Derived.Test.YtdhdbdpemejpjaaVcTlbG
namespace Go.Proofs.Ytdhdbdpemejpjaa
open Go Go.Vc
set_option maxRecDepth 100000
set_option linter.unusedVariables false

theorem hartE_set {Es : List (List (Key × Int))} {i : Nat} (hi : i < Es.length) {E' : List (Key × Int)} {h : Int} : hartE (Es.set i E') h = if h = (i : Int) then E' else hartE Es h := by
  unfold hartE
  by_cases h0 : 0 ≤ h
  · rw [if_pos h0, if_pos h0, List.getD_eq_getElem?_getD, List.getD_eq_getElem?_getD, List.getElem?_set]
    by_cases hh : h = (i : Int)
    · have : i = h.toNat := by omega
      rw [if_pos hh, if_pos this, if_pos hi]; rfl
    · have : ¬ i = h.toNat := by omega
      rw [if_neg hh, if_neg this]
  · rw [if_neg h0, if_neg h0, if_neg (by omega)]
theorem flushEs_at {Es : List (List (Key × Int))} {i sp h : Int} : hartE (flushEs Es i sp) h = if h = i then keepE (hartE Es i) sp else hartE Es h := by
  unfold flushEs
  by_cases hv : 0 ≤ i ∧ i < Es.length
  · rw [if_pos hv, hartE_set (by omega)]
    have : ((i.toNat : Nat) : Int) = i := by omega
    rw [this]
  · rw [if_neg hv]
    by_cases hh : h = i
    · rw [if_pos hh, hh, hartE_no hv]; rfl
    · rw [if_neg hh]
def intC (n : Int) : List Value := [.int .i64 n]
theorem intC_len (n : Int) : (intC n).length = 1 := rfl
theorem intC_one (n : Int) : ∀ u ∈ intC n, u.oneCell' = true := by intro u hu; simp [intC] at hu; subst hu; rfl

section
variable {w0 w : World} {Im : Mem} {Fr L : List (Nat × Obj)} {t : TlbG} {R : Ending → World → Prop}
theorem ints_at {a : Option Addr} {l : Nat} {ts : List Int} (hi : InE Im intC 1 a l ts) (h : Own w0 Im w L) {i : Nat} (hl : i < ts.length) : ∃ b o, a = some ⟨b, o, none⟩ ∧ w.cell? ⟨b, o + i, none⟩ = some (.int .i64 ts[i]) := by
  obtain ⟨b, o, ea, _, h2⟩ := hi.get h hl
  exact ⟨b, o, ea, by have := h2 0 (by simp [intC]); rw [Nat.mul_one, Nat.add_zero] at this; exact this⟩

/-- The law TlbApart. -/
theorem s4 (h : Own w0 Im w []) {a : Option Addr} {l k : Nat} {ops : List Op} (hops : InE Im opC 7 a l ops) (hl : l ≤ 4611686018427387904) {hart : Int}
    (hR : ∀ w', Own w0 Im w' [] → R (.returned (.bool true)) w') : Calls Try.prog 4 #[.slice a l k, .int .i64 hart] w R := by
  apply vc4
  unfold Vc4
  have hlen := hops.len
  have hdone : ∀ w' L, Own w0 Im w' L → R (.returned (.bool true)) w' := fun w' L ho => hR w' (ho.sub (List.nil_sublist _))
  refine s7 h (fun e => by omega) fun w5 t _ _ _ _ h5 ht hsz hEs _ _ => ⟨_, _, rfl, ?_⟩
  refine s7 h5 (fun e => by omega) fun w9 u _ _ _ _ h9 hu hsz2 hEs2 _ _ => ⟨_, _, rfl, fun e => absurd rfl e, fun _ => ⟨fun e => absurd rfl e, fun _ => ⟨fun e => (by cases e), fun _ => ⟨fun e => (by cases e), fun _ => ?_⟩⟩⟩⟩
  refine s8 h9 fun w12 h12 => ⟨_, rfl, fun _ => ?_, fun e => (by cases e)⟩
  have h12 := h12.perm (perm_l u.L t.L [])
  refine ⟨fun w' => ∃ t' u' : TlbG, Own w0 Im w' (t'.L ++ (u'.L ++ [])) ∧ TlbOk t' ∧ TlbOk u' ∧ t'.tb = t.tb ∧ u'.tb = u.tb ∧ hartE t'.Es hart = hartE u'.Es hart, ?_, ?_⟩
  · rintro w14 ⟨t1, u1, h14, ht1, hu1, htb, hub, hsame⟩
    refine at_cb (n := t1.tb) htb ?_
    refine s14 h14 ht1 fun w16 x h16 hx => ⟨_, _, _, rfl, ?_⟩
    refine at_cb (n := u1.tb) hub ?_
    have pu : (vecL 31 x ++ (t1.L ++ (u1.L ++ []))).Perm (u1.L ++ (vecL 31 x ++ (t1.L ++ []))) := (List.Perm.append_left _ (perm_l t1.L u1.L [])).trans (perm_l (vecL 31 x) u1.L _)
    refine s14 (h16.perm pu) hu1 fun w19 y h19 hy => ⟨_, _, _, rfl, ?_⟩
    rw [hsame] at hx ⊢
    generalize hE : hartE u1.Es hart = E at *
    obtain ⟨ks, hks⟩ : ∃ ks : List Key, ks = E.map (·.1) := ⟨_, rfl⟩
    rw [← hks] at hx hy
    have hEl : ks.length = E.length := by rw [hks]; simp
    have hsm : E.length ≤ maxLen := by have h1 := hx.cap; have h2 := hx.cap2; omega
    simp only [maxLen] at hsm
    refine ⟨fun e => absurd rfl e, fun _ => ⟨fun m v w' => ∃ i : Nat, m = E.length - i ∧ v = i ∧ i ≤ E.length ∧ Own w0 Im w' (vecL 31 y ++ (u1.L ++ (vecL 31 x ++ (t1.L ++ [])))), ⟨_, 0, rfl, rfl, by omega, h19⟩, ?_⟩⟩
    rintro m v w23 ⟨i, rfl, rfl, hi, h23⟩
    refine ⟨fun hlt => ?_, fun hge => hdone _ _ h23⟩
    have hi' : i < E.length := by omega
    have hi2 : i < ks.length := by omega
    have ei : ((i : Nat) : Int).toNat = i := by omega
    have hxa : ∀ {w' : World}, Own w0 Im w' (vecL 31 y ++ (u1.L ++ (vecL 31 x ++ (t1.L ++ [])))) → ∃ g, vecA x = some ⟨g, 0, none⟩ ∧ CellsAt w' ⟨g, i * 2, none⟩ (keyC ks[i]) := fun ho => vecE_at (e := 31) keyC_len ho (fun p hp => by simp [hp]) hx hi2
    have hya : ∀ {w' : World}, Own w0 Im w' (vecL 31 y ++ (u1.L ++ (vecL 31 x ++ (t1.L ++ [])))) → ∃ g, vecA y = some ⟨g, 0, none⟩ ∧ CellsAt w' ⟨g, i * 2, none⟩ (keyC ks[i]) := fun ho => vecE_at (e := 31) keyC_len ho (fun p hp => by simp [hp]) hy hi2
    have hsome : (lookE E ks[i]).isSome = true := by
      cases hq : lookE E ks[i] with
      | some n => rfl
      | none => exact absurd (by rw [← hks]; exact List.getElem_mem hi2) (lookE_none.1 hq)
    obtain ⟨g, eg, hc⟩ := hxa h23
    refine ⟨_, _, eg, by omega, hlt, ks[i].1, ks[i].2, by rw [ei, Nat.zero_add]; exact hc, ?_⟩
    refine at_cb (n := t1.tb) htb ?_
    have pT : (vecL 31 y ++ (u1.L ++ (vecL 31 x ++ (t1.L ++ [])))).Perm (t1.L ++ (vecL 31 y ++ (u1.L ++ (vecL 31 x ++ [])))) :=
      (List.Perm.append_left _ (List.Perm.append_left _ (perm_l (vecL 31 x) t1.L []))).trans ((List.Perm.append_left _ (perm_l u1.L t1.L _)).trans (perm_l (vecL 31 y) t1.L _))
    refine s16 (k := ks[i]) (h23.perm pT) ht1 fun w30 h30 => ⟨_, _, rfl, ?_⟩
    have h30 := h30.perm pT.symm
    rw [hsame]
    obtain ⟨g2, eg2, hc2⟩ := hya h30
    refine ⟨_, _, eg2, by omega, hlt, ks[i].1, ks[i].2, by rw [ei, Nat.zero_add]; exact hc2, ?_⟩
    refine at_cb (n := u1.tb) hub ?_
    have pU : (vecL 31 y ++ (u1.L ++ (vecL 31 x ++ (t1.L ++ [])))).Perm (u1.L ++ (vecL 31 y ++ (vecL 31 x ++ (t1.L ++ [])))) := perm_l (vecL 31 y) u1.L _
    refine s16 (k := ks[i]) (h30.perm pU) hu1 fun w38 h38 => ⟨_, _, rfl, ?_⟩
    have h38 := (h38.perm pU.symm).drew
    rw [hE]
    obtain ⟨g3, eg3, hc3⟩ := hxa h38
    obtain ⟨g4, eg4, hc4⟩ := hya h38
    have e3 : g = g3 := by rw [eg] at eg3; simpa using eg3
    have e4 : g2 = g4 := by rw [eg2] at eg4; simpa using eg4
    subst e3 e4
    refine ⟨by omega, hlt, by omega, hlt, ks[i].1, ks[i].2, by rw [ei, Nat.zero_add]; exact hc3, ks[i].1, ks[i].2, by rw [ei, Nat.zero_add]; exact hc4, !decide (ks[i] = ks[i]), fun w' => key_guard _ _ w', fun w' => key_ne _ _ w', fun e => ?_, fun _ => ⟨fun e => absurd rfl e, fun _ => ⟨fun _ => ⟨fun _ r45 e45 => ?_, fun e => ?_⟩, fun e => ?_⟩⟩⟩
    · simp at e
    · rw [wrap_id (by omega) (by omega)] at e45
      exact ⟨_, by omega, i + 1, rfl, by omega, by omega, h38⟩
    · rw [hsome] at e; cases e
    · rw [hsome] at e; cases e
  · refine ⟨fun m v w' => ∃ (i : Nat) (t' u' : TlbG), m = ops.length - i ∧ v = i ∧ i ≤ ops.length ∧ Own w0 Im w' (t'.L ++ (u'.L ++ [])) ∧ TlbOk t' ∧ TlbOk u' ∧ t'.tb = t.tb ∧ u'.tb = u.tb ∧ hartE t'.Es hart = hartE u'.Es hart ∧ t'.Es.length = u'.Es.length ∧ t'.size = u'.size, ⟨_, 0, t, u, rfl, rfl, by omega, h12, ht, hu, rfl, rfl, by rw [hEs, hEs2], by rw [hEs, hEs2], by rw [hsz, hsz2]⟩, ?_⟩
    rintro m v w49 ⟨i, t1, u1, rfl, rfl, hi, h49, ht1, hu1, htb, hub, hsame, hln, hss⟩
    refine ⟨fun hlt => ?_, fun hge => ⟨t1, u1, h49, ht1, hu1, htb, hub, hsame⟩⟩
    have hi' : i < ops.length := by omega
    have ei : ((i : Nat) : Int).toNat = i := by omega
    obtain ⟨b50, o51, ea, hcs, _⟩ := hops.get h49 hi'
    refine ⟨_, _, ea, by omega, hlt, _, _, _, _, _, _, _, _, _, by rw [ei]; exact hcs, fun b59 w60 e59 e60 => ?_⟩
    have h60 := h49.alloc' e59 e60
    refine ⟨h60.putOk 0 rfl (by simp), fun w61 e61 => ?_⟩
    generalize hop : ops[i] = op at *
    have h61 : Own w0 Im w61 ((b59, .cells (opC op).toArray 34 (0, 0)) :: (t1.L ++ (u1.L ++ []))) := by rw [e61]; exact h60.putAll (k := 0) rfl (opC op) rfl
    have pT : ∀ (t u : TlbG), ((b59, Obj.cells (opC op).toArray 34 (0, 0)) :: (t.L ++ (u.L ++ []))).Perm (t.L ++ (u.L ++ [(b59, Obj.cells (opC op).toArray 34 (0, 0))])) := fun t u =>
      (List.perm_middle (l₁ := t.L) (l₂ := u.L ++ [])).symm.trans (List.Perm.append_left _ List.perm_middle.symm)
    have h61 := h61.perm (pT t1 u1)
    have tmp : ∀ {w' : World} {t u : TlbG}, Own w0 Im w' (t.L ++ (u.L ++ [(b59, Obj.cells (opC op).toArray 34 (0, 0))])) → ∀ j, w'.cell? ⟨b59, j, none⟩ = (opC op)[j]? := fun {w' t u} h j => by
      rw [cell_of (h.mem (b := b59) (o := .cells (opC op).toArray 34 (0, 0)) (by simp)), List.getElem?_toArray]
    have tmpK : ∀ {w' : World} {t u : TlbG}, Own w0 Im w' (t.L ++ (u.L ++ [(b59, Obj.cells (opC op).toArray 34 (0, 0))])) → CellsAt w' ⟨b59, 0 + 2, none⟩ (keyC op.key) := fun {w' t u} h j v hj => by
      rw [add_none, tmp h]
      match j with
      | 0 => simpa [opC, keyC] using hj
      | 1 => simpa [opC, keyC] using hj
      | j + 2 => simp [keyC] at hj
    have next : ∀ (w' : World) (t2 u2 : TlbG), Own w0 Im w' (t2.L ++ (u2.L ++ [(b59, Obj.cells (opC op).toArray 34 (0, 0))])) → TlbOk t2 → TlbOk u2 → t2.tb = t1.tb → u2.tb = u1.tb → hartE t2.Es hart = hartE u2.Es hart → t2.Es.length = u2.Es.length → t2.size = u2.size → ∀ r, r = IntKind.wrap .i64 (((i : Nat) : Int) + 1) →
        ∃ m2, m2 < ops.length - i ∧ ∃ (i : Nat) (t' u' : TlbG), m2 = ops.length - i ∧ r = i ∧ i ≤ ops.length ∧ Own w0 Im w' (t'.L ++ (u'.L ++ [])) ∧ TlbOk t' ∧ TlbOk u' ∧ t'.tb = t.tb ∧ u'.tb = u.tb ∧ hartE t'.Es hart = hartE u'.Es hart ∧ t'.Es.length = u'.Es.length ∧ t'.size = u'.size := by
      intro w' t2 u2 ho h1 h2 h3 h4 h5 h6 h7 r hr
      rw [wrap_id (by omega) (by omega)] at hr
      exact ⟨_, by omega, i + 1, t2, u2, rfl, by omega, by omega, (ho.perm (pT t2 u2).symm).tail rfl, h1, h2, h3.trans htb, h4.trans hub, h5, h6, h7⟩
    refine ⟨fun w' => ∃ t2 u2 : TlbG, Own w0 Im w' (t2.L ++ (u2.L ++ [(b59, Obj.cells (opC op).toArray 34 (0, 0))])) ∧ TlbOk t2 ∧ TlbOk u2 ∧ t2.tb = t1.tb ∧ u2.tb = u1.tb ∧ hartE t2.Es hart = hartE u2.Es hart ∧ t2.Es.length = u2.Es.length ∧ t2.size = u2.size, ?_, ?_⟩
    · rintro w62 ⟨t2, u2, h62, ht2, hu2, htb2, hub2, hsame2, hln2, hss2⟩
      refine ⟨_, tmp h62 0, fun _ => ⟨_, tmp h62 1, _, tmp h62 2, ?_⟩, fun _ => next w62 t2 u2 h62 ht2 hu2 htb2 hub2 hsame2 hln2 hss2⟩
      refine at_cb (n := t2.tb) (htb2.trans htb) ?_
      refine s15 h62 ht2 fun w67 t3 h67 ht3 hT3 => ⟨_, rfl, _, tmp h67 1, fun hh => ?_, fun hh => ?_⟩
      · refine ⟨_, tmp h67 1, _, tmp h67 2, ?_⟩
        refine at_cb (n := u2.tb) (hub2.trans hub) ?_
        refine s15 (h67.perm (perm_l t3.L u2.L _)) hu2 fun w73 u3 h73 hu3 hU3 => ⟨_, rfl, ?_⟩
        refine next w73 t3 u3 (h73.perm (perm_l t3.L u3.L _).symm) ht3 hu3 (hT3.tb.trans htb2) (hU3.tb.trans hub2) ?_ ?_ ?_
        · have hh : op.hart = hart := hh
          rw [hT3.Es, hU3.Es, flushEs_at, flushEs_at, hh, if_pos rfl, if_pos rfl, hsame2]
        · rw [hT3.Es, hU3.Es]; unfold flushEs; rw [hln2]; split <;> simp [hln2]
        · rw [hT3.size, hU3.size, hss2]
      · refine next w67 t3 u2 h67 ht3 hu2 (hT3.tb.trans htb2) hub2 ?_ ?_ (hT3.size.trans hss2)
        · rw [hT3.Es, flushEs_at, if_neg (fun e => hh e.symm)]; exact hsame2
        · rw [hT3.Es]; unfold flushEs; split <;> simp [hln2]
    · refine ⟨_, tmp h61 0, fun _ => ⟨_, tmp h61 1, _, _, tmpK h61, _, tmp h61 4, ?_⟩, fun _ => ⟨t1, u1, h61, ht1, hu1, rfl, rfl, hsame, hln, hss⟩⟩
      refine at_cb (n := t1.tb) htb ?_
      refine s9 (k := op.key) h61 ht1 (fun hn w87 h87 => ⟨_, rfl, _, tmp h87 1, fun hh => ?_, fun hh => ⟨t1, u1, h87, ht1, hu1, rfl, rfl, hsame, hln, hss⟩⟩) fun w87 t2 h0 h1 h87 ht2 hT2 => ⟨_, rfl, _, tmp h87 1, fun hh => ?_, fun hh => ?_⟩
      · refine ⟨_, tmp h87 1, _, _, tmpK h87, _, tmp h87 4, ?_⟩
        refine at_cb (n := u1.tb) hub ?_
        refine s9 (k := op.key) (h87.perm (perm_l t1.L u1.L _)) hu1 (fun _ w95 h95 => ⟨_, rfl, t1, u1, h95.perm (perm_l t1.L u1.L _).symm, ht1, hu1, rfl, rfl, hsame, hln, hss⟩) fun w95 u2 h0 h1 => absurd ⟨h0, by rw [hln]; exact h1⟩ hn
      · refine ⟨_, tmp h87 1, _, _, tmpK h87, _, tmp h87 4, ?_⟩
        refine at_cb (n := u1.tb) hub ?_
        refine s9 (k := op.key) (h87.perm (perm_l t2.L u1.L _)) hu1 (fun hn => absurd ⟨h0, by rw [← hln]; exact h1⟩ hn) fun w95 u2 _ _ h95 hu2 hU2 => ⟨_, rfl, t2, u2, h95.perm (perm_l t2.L u2.L _).symm, ht2, hu2, hT2.tb, hU2.tb, ?_, ?_, ?_⟩
        · have hh : op.hart = hart := hh
          rw [hT2.Es, hU2.Es, hartE_set (by omega), hartE_set (by omega), hss]
          have e1 : hart = ((op.hart.toNat : Nat) : Int) := by omega
          rw [if_pos e1, if_pos e1, hh, hsame]
        · rw [hT2.Es, hU2.Es]; simp [hln]
        · rw [hT2.size, hU2.size, hss]
      · have hh : ¬ op.hart = hart := hh
        refine ⟨t2, u1, h87, ht2, hu1, hT2.tb, rfl, ?_, by rw [hT2.Es]; simp [hln], hT2.size.trans hss⟩
        rw [hT2.Es, hartE_set (by omega), if_neg (by omega)]; exact hsame
end
end Go.Proofs.Ytdhdbdpemejpjaa
