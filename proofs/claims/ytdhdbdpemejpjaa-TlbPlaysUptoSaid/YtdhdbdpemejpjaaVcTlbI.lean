/- A part of the proof: lemmas. -/
import Derived.Test.YtdhdbdpemejpjaaVcTlbH
namespace Go.Proofs.Ytdhdbdpemejpjaa
open Go Go.Vc
set_option maxRecDepth 100000
set_option linter.unusedVariables false

/-- One shootdown, of a space, which these have not handled. -/
def oneSh (space : Int) (lf : List Int) : Int → Option Shoot := fun id => if id = 1 ∧ lf ≠ [] then some ⟨space, fun j => decide ((j : Int) ∈ lf)⟩ else none
theorem startSh_one {space : Int} {ts : List Int} : startSh (fun _ => none) (0 + 1) space ts = oneSh space ts := by
  funext i
  unfold startSh oneSh
  rfl
theorem lf_all {n : Nat} (hn : n ≤ 8) {lf : List Int} (h : ∀ x ∈ lf, 0 ≤ x ∧ x < n) (sp : Int) : allOff ⟨sp, fun j => decide ((j : Int) ∈ lf)⟩ = true ↔ lf = [] := by
  rw [allOff_iff]
  constructor
  · intro ha
    cases lf with
    | nil => rfl
    | cons x t =>
      have hx := h x (by simp)
      have := ha x.toNat (by omega)
      simp only [decide_eq_false_iff_not] at this
      exact absurd (by rw [show ((x.toNat : Nat) : Int) = x by omega]; simp) this
  · rintro rfl i hi
    simp
/-- Handled, at a hart. -/
theorem handle_one {n : Nat} (hn : n ≤ 8) {space : Int} {lf : List Int} (hlf : ∀ x ∈ lf, 0 ≤ x ∧ x < n) {h : Int} (h0 : 0 ≤ h) {ps : List Int} (hps : PendOf (oneSh space lf) h.toNat ps) :
    handleSh (oneSh space lf) h.toNat ps = oneSh space (lf.filter fun x => !decide (x = h)) ∧ (h ∈ lf → 1 ∈ ps) ∧ (h ∉ lf → ps = []) ∧ ∀ id ∈ ps, spaceOf (oneSh space lf) id = space := by
  have e0 : ((h.toNat : Nat) : Int) = h := by omega
  have hmem : ∀ id, id ∈ ps ↔ id = 1 ∧ h ∈ lf := fun id => by
    rw [hps.iff]
    unfold oneSh
    constructor
    · rintro ⟨s, hs, hl⟩
      split at hs
      · rename_i hh
        cases hs
        have := of_decide_eq_true hl
        rw [e0] at this
        exact ⟨hh.1, this⟩
      · cases hs
    · rintro ⟨rfl, hh⟩
      have hne : lf ≠ [] := fun e => by rw [e] at hh; cases hh
      exact ⟨_, if_pos ⟨rfl, hne⟩, decide_eq_true (by rw [e0]; exact hh)⟩
  have hsub : ∀ x ∈ lf.filter (fun x => !decide (x = h)), 0 ≤ x ∧ x < n := fun x hx => hlf x (List.mem_filter.1 hx).1
  refine ⟨?_, fun hh => (hmem 1).2 ⟨rfl, hh⟩, fun hh => ?_, fun id hid => ?_⟩
  · funext id
    unfold handleSh
    by_cases hid : id ∈ ps
    · obtain ⟨rfl, hh⟩ := (hmem id).1 hid
      have hne : lf ≠ [] := fun e => by rw [e] at hh; cases hh
      rw [if_pos hid]
      have e1 : oneSh space lf 1 = some ⟨space, fun j => decide ((j : Int) ∈ lf)⟩ := if_pos ⟨rfl, hne⟩
      rw [e1]
      unfold stepSh
      simp only [Option.bind_some]
      have e2 : clearSh ⟨space, fun j => decide ((j : Int) ∈ lf)⟩ h.toNat = ⟨space, fun j => decide ((j : Int) ∈ lf.filter fun x => !decide (x = h))⟩ := by
        unfold clearSh
        congr 1
        funext j
        by_cases hj : j = h.toNat
        · rw [if_pos hj, hj, e0]; simp
        · rw [if_neg hj]
          have : ¬ ((j : Nat) : Int) = h := fun e => hj (by omega)
          simp [this]
      rw [e2]
      unfold oneSh
      by_cases hl : (lf.filter fun x => !decide (x = h)) = []
      · rw [if_pos ((lf_all hn hsub space).2 hl), if_neg (fun hh => hh.2 hl)]
      · rw [if_neg (fun hh => hl ((lf_all hn hsub space).1 hh)), if_pos ⟨rfl, hl⟩]
    · rw [if_neg hid]
      by_cases hh : h ∈ lf
      · have hi : id ≠ 1 := fun e => hid ((hmem id).2 ⟨e, hh⟩)
        unfold oneSh
        rw [if_neg (fun q => hi q.1), if_neg (fun q => hi q.1)]
      · have : (lf.filter fun x => !decide (x = h)) = lf := List.filter_eq_self.2 fun x hx => by
          have : x ≠ h := fun e => hh (e ▸ hx)
          simp [this]
        rw [this]
  · cases hps' : ps with
    | nil => rfl
    | cons a l =>
      have := (hmem a).1 (by rw [hps']; simp)
      exact absurd this.2 hh
  · obtain ⟨rfl, hh⟩ := (hmem id).1 hid
    have hne : lf ≠ [] := fun e => by rw [e] at hh; cases hh
    unfold spaceOf oneSh
    rw [if_pos ⟨rfl, hne⟩]; rfl
theorem handleE_sub {sh : Int → Option Shoot} {ps : List Int} {E : List (Key × Int)} : ∀ e ∈ handleE E sh ps, e ∈ E := by
  unfold handleE
  induction ps generalizing E with
  | nil => intro e he; exact he
  | cons a l ih =>
    intro e he
    exact (List.mem_filter.1 (ih e he)).1
theorem handleE_gone {sh : Int → Option Shoot} {ps : List Int} {space : Int} (hs : ∀ id ∈ ps, spaceOf sh id = space) (h1 : ps ≠ []) {E : List (Key × Int)} : ∀ e ∈ handleE E sh ps, e.1.1 ≠ space := by
  cases ps with
  | nil => exact absurd rfl h1
  | cons a l =>
    intro e he
    have he : e ∈ handleE (keepE E (spaceOf sh a)) sh l := he
    have := (List.mem_filter.1 (handleE_sub e he)).2
    rw [hs a (by simp)] at this
    simpa using this

section
variable {w0 w : World} {Im : Mem} {Fr L : List (Nat × Obj)} {t : TlbG} {R : Ending → World → Prop}
/-- The law TlbOver. -/
theorem s3 (h : Own w0 Im w []) {a : Option Addr} {l k : Nat} {ops : List Op} (hops : InE Im opC 7 a l ops) (hl : l ≤ 4611686018427387904) {space : Int}
    {ta : Option Addr} {tl tk : Nat} {ts : List Int} (hts : InE Im intC 1 ta tl ts) (htl : tl ≤ 17592186043904) {oa : Option Addr} {ol ok : Nat} {os : List Int} (hos : InE Im intC 1 oa ol os) (hol : ol ≤ 17592186043904)
    (hR : ∀ w', Own w0 Im w' [] → R (.returned (.bool true)) w') : Calls Try.prog 3 #[.slice a l k, .int .i64 space, .slice ta tl tk, .slice oa ol ok] w R := by
  apply vc3
  unfold Vc3
  have hlen := hops.len
  have htlen := hts.len
  have holen := hos.len
  have hdone : ∀ w' L, Own w0 Im w' L → R (.returned (.bool true)) w' := fun w' L ho => hR w' (ho.sub (List.nil_sublist _))
  refine s7 h (fun e => by omega) fun w7 t _ _ _ _ h7 ht hsz hEs hbg hsh => ⟨_, _, rfl, fun e => absurd rfl e, fun _ => ⟨fun e => (by cases e), fun _ => ?_⟩⟩
  refine s8 h7 fun w10 h10 => ⟨_, rfl, fun _ => ?_, fun e => (by cases e)⟩
  have hl4 : t.Es.length = 4 := by rw [hEs]; rfl
  refine ⟨fun w' => ∃ t' : TlbG, Own w0 Im w' (t'.L ++ []) ∧ TlbOk t' ∧ t'.tb = t.tb ∧ t'.Es.length = 4 ∧ t'.begun = 0 ∧ t'.sh = (fun _ => none), ?_, ?_⟩
  · rintro w12 ⟨t1, h12, ht1, htb1, hlE1, hb1, hs1⟩
    refine at_cb (n := t1.tb) htb1 ?_
    have hrd : Reads w0 Im ta ts [] := by
      intro w' A ho j x hj
      have hj' := (List.getElem?_eq_some_iff.1 hj).1
      obtain ⟨b, o, e1, e2⟩ := ints_at hts ho hj'
      refine ⟨b, o, e1, ?_⟩
      rw [e2]
      rw [List.getElem?_eq_getElem hj'] at hj
      rw [Option.some.inj hj]
    rw [htlen]
    have H := fun R hbad hfull hR => s10 (R := R) (space := space) (a := ta) (c := tk) (ts := ts) h12 ht1 hrd (by omega) hbad hfull hR
    refine H _ (fun hn w15 h15 => ⟨_, _, rfl, fun _ => ⟨fun _ => ?_, fun e => absurd rfl e⟩, fun e => absurd e (by decide)⟩) (fun _ hf => by rw [hb1] at hf; exact absurd hf (by decide)) fun w15 t2 hokT _ h15 ht2 hT2 => ?_
    · refine at_cb (n := t1.tb) htb1 ?_
      refine s11 h15 ht1 (fun hn => absurd ⟨by decide, by rw [hlE1]; decide⟩ hn) fun w18 x ps _ _ h18 hx hps _ => ⟨_, _, _, rfl, ?_⟩
      have : ps = [] := by
        cases hq : ps with
        | nil => rfl
        | cons q l =>
          obtain ⟨s, hs, _⟩ := (hps.iff q).1 (by rw [hq]; simp)
          rw [hs1] at hs; cases hs
      subst this
      exact hdone _ _ h18
    · rw [hb1, hs1, startSh_one] at hT2
      rw [hb1]
      have htb2 : t2.tb = t.tb := hT2.tb.trans htb1
      have hlE2 : t2.Es.length = 4 := by rw [hT2.Es]; exact hlE1
      refine ⟨_, _, rfl, fun e => absurd rfl e, fun _ b20 w21 e20 e21 => ?_⟩
      have h21 := h15.alloc' e20 e21
      obtain ⟨x0, w22, hr, ho22, hx0⟩ := vecE_append (n := 1) (P := Try.prog) (t := 23) (ty := 23) (e := 3) (bytes := 8) (z := .int .i64 0) (f := intC) (x := some (b20, 0, [])) (xs := ([] : List Int)) (a := ta) (c := tk) (ys := ts) Try.underlying23 Try.type3 rfl rfl rfl rfl intC_len intC_one h21 ⟨rfl, Nat.le_refl _, Nat.zero_le _, rfl, rfl⟩
        (fun hne => by
          have h0 : 0 < ts.length := List.length_pos_iff.2 hne
          obtain ⟨b, o, e1, _⟩ := ints_at hts h21 h0
          refine ⟨_, e1, fun j v hj => ?_⟩
          rw [add_none]
          have e3 : ts.flatMap intC = i64s ts := i64s_flat ts
          rw [e3] at hj
          obtain ⟨b', o', e1', e2'⟩ := ints_at hts h21 (i := j) (by have := (List.getElem?_eq_some_iff.1 hj).1; simpa [i64s] using this)
          rw [e1] at e1'
          simp only [Option.some.injEq, Addr.mk.injEq] at e1'
          obtain ⟨rfl, rfl, _⟩ := e1'
          rw [e2']
          simp only [i64s, List.getElem?_map] at hj
          cases hc : ts[j]? with
          | none => rw [hc] at hj; cases hj
          | some c =>
            rw [hc] at hj
            have := (List.getElem?_eq_some_iff.1 hc).2
            rw [← this] at hj
            simpa using hj) (by simp only [List.length_nil]; omega) (by simp only [List.length_nil, maxLen]; omega)
      simp only [List.length_nil, Nat.zero_add, List.nil_append] at hr hx0
      refine ⟨_, _, _, w22, hr, ?_⟩
      -- what holds behind each call
      let Inv : List Int → VecB → TlbG → World → Prop := fun lf lv t' w' => Own w0 Im w' (t'.L ++ (vecL 3 lv ++ [])) ∧ TlbOk t' ∧ t'.tb = t.tb ∧ t'.Es.length = 4 ∧ t'.begun = 1 ∧ t'.sh = oneSh space lf ∧ VecE intC 1 lv lf ∧ (∀ x ∈ lf, 0 ≤ x ∧ x < (4 : Nat)) ∧ lf.length ≤ ts.length ∧ (∀ x ∈ ts, x ∉ lf → ∀ e ∈ hartE t'.Es x, e.1.1 ≠ space)
      have hok4 : ∀ x ∈ ts, 0 ≤ x ∧ x < (4 : Nat) := fun x hx => by have := hokT.1 x hx; rw [hlE1] at this; exact this
      have hover : ∀ {lf lv t' w'}, Inv lf lv t' w' → ∀ R : Ending → World → Prop, (∀ w'', Inv lf lv t' w'' → R (.returned (.bool (decide (((lf.length : Nat) : Int) = 0)))) w'') → Calls Try.prog 12 #[.pointer (some ⟨t.tb, 0, none⟩), .int .i64 (0 + 1)] w' R := by
        intro lf lv t' w' ⟨ho, h1, h2, h3, h4, h5, h6, h7, h8, h9⟩ R hR
        refine at_cb (n := t'.tb) h2 ?_
        refine s12 ho h1 fun w'' ho' => ?_
        have := hR w'' ⟨ho', h1, h2, h3, h4, h5, h6, h7, h8, h9⟩
        rw [h4, h5]
        have e : (decide (1 ≤ (0 + 1 : Int) ∧ (0 + 1 : Int) ≤ 1) && (oneSh space lf (0 + 1)).isNone) = decide (((lf.length : Nat) : Int) = 0) := by
          unfold oneSh
          cases lf with
          | nil => rfl
          | cons x l => simp; omega
        rw [e]; exact this
      refine ⟨fun va vl vc w' => ∃ (lf : List Int) (lv : VecB) (t' : TlbG), va = vecA lv ∧ vl = lf.length ∧ vc = vecC lv ∧ Inv lf lv t' w', ?_, ?_⟩
      · rintro va vl vc w25 ⟨lf, lv, t3, rfl, rfl, rfl, hI⟩
        refine hover hI _ fun w27 hI27 => ⟨_, rfl, fun e => by simp at e, fun _ => ?_⟩
        refine ⟨fun m v w' => ∃ i : Nat, m = ts.length - i ∧ v = i ∧ i ≤ ts.length ∧ Inv lf lv t3 w', ⟨_, 0, rfl, rfl, by omega, hI27⟩, ?_⟩
        rintro m v w31 ⟨i, rfl, rfl, hi, hI31⟩
        refine ⟨fun hlt => ?_, fun hge => hdone _ _ hI31.1⟩
        have hi' : i < ts.length := by omega
        have ei : ((i : Nat) : Int).toNat = i := by omega
        refine ⟨fun v w' => v = decide (ts[i] ∈ lf) ∧ Inv lf lv t3 w', ?_, ?_⟩
        · rintro v w33 ⟨hv, hI33⟩
          obtain ⟨h33, g1, g2, g3, g4, g5, g6, g7, g8, g9⟩ := hI33
          obtain ⟨b, o, eb, cb⟩ := ints_at hts h33 hi'
          refine ⟨_, _, eb, by omega, hlt, ts[i], by rw [ei]; exact cb, ?_⟩
          refine at_cb (n := t3.tb) g2 ?_
          refine s14 h33 g1 fun w38 x h38 hx => ⟨_, _, _, rfl, ?_⟩
          generalize hE : hartE t3.Es ts[i] = E at hx
          have hsm : E.length ≤ maxLen := by have h1 := hx.cap; have h2 := hx.cap2; rw [List.length_map] at h1; omega
          simp only [maxLen] at hsm
          have next : ∀ w', Own w0 Im w' (vecL 31 x ++ (t3.L ++ (vecL 3 lv ++ []))) → ∀ r, r = IntKind.wrap .i64 (((i : Nat) : Int) + 1) → ∃ m44, m44 < ts.length - i ∧ ∃ i : Nat, m44 = ts.length - i ∧ r = i ∧ i ≤ ts.length ∧ Inv lf lv t3 w' := by
            intro w' ho r hr
            rw [wrap_id (by omega) (by omega)] at hr
            exact ⟨_, by omega, i + 1, rfl, by omega, by omega, ho.sub (List.sublist_append_right _ _), g1, g2, g3, g4, g5, g6, g7, g8, g9⟩
          refine ⟨fun m v w' => ∃ j : Nat, m = E.length - j ∧ v = j ∧ j ≤ E.length ∧ Own w0 Im w' (vecL 31 x ++ (t3.L ++ (vecL 3 lv ++ []))), ⟨_, 0, rfl, rfl, by omega, h38⟩, ?_⟩
          rintro m v w42 ⟨j, rfl, rfl, hj, h42⟩
          refine ⟨fun hlt2 => ⟨fun _ => next w42 h42, fun hvf => ?_⟩, fun _ => next w42 h42⟩
          have hj' : j < E.length := by omega
          have ej : ((j : Nat) : Int).toNat = j := by omega
          have hnot : ts[i] ∉ lf := by rw [hv] at hvf; simpa using hvf
          obtain ⟨g, eg, hc⟩ := vecE_cell (e := 31) keyC_len h42 (fun p hp => by simp [hp]) hx (i := j) (by simpa using hj')
          have hkj : (E.map (·.1))[j]'(by simpa using hj') = E[j].1 := by simp
          rw [hkj] at hc
          have hne := g9 ts[i] (List.getElem_mem hi') hnot E[j] (by rw [hE]; exact List.getElem_mem hj')
          refine ⟨_, _, eg, by omega, hlt2, E[j].1.1, by rw [ej, Nat.zero_add]; exact hc 0 (by omega), fun e => absurd e hne, fun _ r48 e48 => ?_⟩
          rw [wrap_id (by omega) (by omega)] at e48
          exact ⟨_, by omega, j + 1, rfl, by omega, by omega, h42⟩
        · refine ⟨fun m v u w' => ∃ q : Nat, m = lf.length - q ∧ u = q ∧ q ≤ lf.length ∧ v = decide (ts[i] ∈ lf.take q) ∧ Inv lf lv t3 w', ⟨_, 0, rfl, rfl, by omega, by simp, hI31⟩, ?_⟩
          rintro m v u w55 ⟨q, rfl, rfl, hq, rfl, hI55⟩
          obtain ⟨h55, g1, g2, g3, g4, g5, g6, g7, g8, g9⟩ := hI55
          refine ⟨fun hlt2 => ?_, fun hge2 => ?_⟩
          · have hq' : q < lf.length := by omega
            have eq' : ((q : Nat) : Int).toNat = q := by omega
            have h55 := h55.drew
            have htk : lf.take (q + 1) = lf.take q ++ [lf[q]] := List.take_succ_eq_append_getElem hq'
            refine ⟨fun hv r56 e56 => ?_, fun hv => ?_⟩
            · rw [wrap_id (by omega) (by omega)] at e56
              refine ⟨_, by omega, q + 1, rfl, by omega, by omega, ?_, h55, g1, g2, g3, g4, g5, g6, g7, g8, g9⟩
              have := of_decide_eq_true hv
              exact (decide_eq_true (by rw [htk]; exact List.mem_append_left _ this)).symm
            · have hnm := of_decide_eq_false hv
              obtain ⟨g, eg, hc⟩ := vecE_cell1 (f := fun n : Int => Value.int .i64 n) (e := 3) h55 (fun p hp => by simp [hp]) g6 hq'
              obtain ⟨b, o, eb, cb⟩ := ints_at hts h55 hi'
              refine ⟨_, _, eg, by omega, hlt2, _, _, eb, by omega, hlt, lf[q], by rw [eq', Nat.zero_add]; exact hc, ts[i], by rw [ei]; exact cb, fun r64 e64 => ?_⟩
              rw [wrap_id (by omega) (by omega)] at e64
              refine ⟨_, by omega, q + 1, rfl, by omega, by omega, ?_, h55, g1, g2, g3, g4, g5, g6, g7, g8, g9⟩
              refine decide_eq_decide.2 ?_
              rw [htk, List.mem_append, List.mem_singleton]
              exact ⟨fun h => .inr h.symm, fun h => h.elim (fun h => absurd h hnm) fun h => h.symm⟩
          · have e : q = lf.length := by omega
            subst e
            rw [List.take_length]
            exact ⟨rfl, h55, g1, g2, g3, g4, g5, g6, g7, g8, g9⟩
      · refine ⟨fun m va vl vc v w' => ∃ (i : Nat) (lf : List Int) (lv : VecB) (t' : TlbG), m = os.length - i ∧ v = i ∧ i ≤ os.length ∧ va = vecA lv ∧ vl = lf.length ∧ vc = vecC lv ∧ Inv lf lv t' w', ⟨_, 0, ts, x0, t2, rfl, rfl, by omega, rfl, rfl, rfl, ho22.perm (perm_l (vecL 3 x0) t2.L []), ht2, htb2, hlE2, hT2.begun, hT2.sh, hx0, hok4, Nat.le_refl _, fun x hx hn => absurd hx hn⟩, ?_⟩
        rintro m va vl vc v w69 ⟨i, lf, lv, t3, rfl, rfl, hi, rfl, rfl, rfl, hI⟩
        refine ⟨fun hlt => ?_, fun hge => ⟨lf, lv, t3, rfl, rfl, rfl, hI⟩⟩
        have hi' : i < os.length := by omega
        have ei : ((i : Nat) : Int).toNat = i := by omega
        refine hover hI _ fun w71 hI71 => ⟨_, rfl, fun e => by simp at e, fun _ => ?_⟩
        obtain ⟨h71, g1, g2, g3, g4, g5, g6, g7, g8, g9⟩ := hI71
        obtain ⟨b, o, eb, cb⟩ := ints_at hos h71 hi'
        refine ⟨_, _, eb, by omega, hlt, os[i], by rw [ei]; exact cb, ?_⟩
        generalize hh : os[i] = hrt at *
        -- what the list comes to
        have build : ∀ (w' : World) (t4 : TlbG), Own w0 Im w' (t4.L ++ (vecL 3 lv ++ [])) → TlbOk t4 → t4.tb = t.tb → t4.Es.length = 4 → t4.begun = 1 → t4.sh = oneSh space (lf.filter fun x => !decide (x = hrt)) → (∀ x ∈ ts, x ∉ (lf.filter fun x => !decide (x = hrt)) → ∀ e ∈ hartE t4.Es x, e.1.1 ≠ space) →
            ∃ I150 : Nat → Option Addr → Nat → Nat → Int → World → Prop, (∃ m, I150 m none 0 0 0 w') ∧ ∀ (m81 : Nat) (v79 : Option Addr) (v79l : Nat) (v79c : Nat) (v80 : Int) (w82 : World), I150 m81 v79 v79l v79c v80 w82 → ((((v80 : Int) < ((lf.length : Nat) : Int)) → (∃ (b83 o84 : Nat), vecA lv = some ⟨b83, o84, none⟩ ∧ ((0 : Int) ≤ v80 ∧ v80 < ((lf.length : Nat) : Int) ∧ ((0 : Int) ≤ ((i : Nat) : Int) ∧ ((i : Nat) : Int) < ((ol : Nat) : Int) ∧ (∃ x85 : Int, World.cell? (w82.drew) ⟨b83, o84 + (v80 : Int).toNat, none⟩ = some (.int .i64 x85) ∧ (∃ x86 : Int, World.cell? (w82.drew) ⟨b, o + (((i : Nat) : Int) : Int).toNat, none⟩ = some (.int .i64 x86) ∧ (((¬ ((x85 : Int) = x86)) → ((0 : Int) ≤ v80 ∧ v80 < ((lf.length : Nat) : Int) ∧ (∃ x87 : Int, World.cell? (w82.drew) ⟨b83, o84 + (v80 : Int).toNat, none⟩ = some (.int .i64 x87) ∧ (∀ (b88 : Nat) (w89 : World), b88 = World.heapSize (w82.drew) → w89 = World.alloc (w82.drew) (.cells #[.int .i64 x87] 3) → (∃ x91 : Option Addr, ∃ x91l : Nat, ∃ x91c : Nat, ∃ w90 : World, (Builtin.append_ #[23, 23] 23 #[.slice v79 v79l v79c, .slice (some ⟨b88, 0, none⟩) 1 1]).run Try.prog w89 = .ok (.slice x91 x91l x91c) w90 ∧ (∀ r92 : Int, r92 = IntKind.wrap .i64 (v80 + 1) → (∃ m93, m93 < m81 ∧ I150 m93 x91 x91l x91c r92 w90))))))) ∧ (((x85 : Int) = x86) → (∀ r94 : Int, r94 = IntKind.wrap .i64 (v80 + 1) → (∃ m95, m95 < m81 ∧ I150 m95 v79 v79l v79c r94 (w82.drew))))))))))) ∧ ((¬ ((v80 : Int) < ((lf.length : Nat) : Int))) → (∀ r96 : Int, r96 = IntKind.wrap .i64 (((i : Nat) : Int) + 1) → (∃ m97, m97 < os.length - i ∧ ∃ (i : Nat) (lf : List Int) (lv : VecB) (t' : TlbG), m97 = os.length - i ∧ r96 = i ∧ i ≤ os.length ∧ v79 = vecA lv ∧ v79l = lf.length ∧ v79c = vecC lv ∧ Inv lf lv t' w82)))) := by
          intro w' t4 ho4 q1 q2 q3 q4 q5 q9
          refine ⟨fun m va vl vc v w' => ∃ (q : Nat) (nv : VecB), m = lf.length - q ∧ v = q ∧ q ≤ lf.length ∧ va = vecA nv ∧ vl = ((lf.take q).filter fun x => !decide (x = hrt)).length ∧ vc = vecC nv ∧ Own w0 Im w' (vecL 3 nv ++ (t4.L ++ (vecL 3 lv ++ []))) ∧ VecE intC 1 nv ((lf.take q).filter fun x => !decide (x = hrt)), ⟨_, 0, none, rfl, rfl, by omega, rfl, rfl, rfl, ho4, VecE.nil⟩, ?_⟩
          rintro m va vl vc v w82 ⟨q, nv, rfl, rfl, hq, rfl, rfl, rfl, h82, hnv⟩
          refine ⟨fun hlt2 => ?_, fun hge2 r96 e96 => ?_⟩
          · have hq' : q < lf.length := by omega
            have eq' : ((q : Nat) : Int).toNat = q := by omega
            have h82 := h82.drew
            obtain ⟨g, eg, hc⟩ := vecE_cell1 (f := fun n : Int => Value.int .i64 n) (e := 3) h82 (fun p hp => by simp [hp]) g6 hq'
            obtain ⟨b', o', eb', cb'⟩ := ints_at hos h82 hi'
            rw [eb] at eb'
            simp only [Option.some.injEq, Addr.mk.injEq] at eb'
            obtain ⟨rfl, rfl, _⟩ := eb'
            have htk : lf.take (q + 1) = lf.take q ++ [lf[q]] := List.take_succ_eq_append_getElem hq'
            have hfl : ((lf.take q).filter fun x => !decide (x = hrt)).length ≤ q := by
              have h1 := List.length_filter_le (fun x : Int => !decide (x = hrt)) (lf.take q)
              have h2 : (lf.take q).length = q := by rw [List.length_take]; omega
              omega
            have hc' : w82.drew.cell? ⟨g, 0 + ((q : Nat) : Int).toNat, none⟩ = some (.int .i64 lf[q]) := by rw [eq', Nat.zero_add]; exact hc
            refine ⟨_, _, eg, by omega, hlt2, by omega, hlt, lf[q], hc', hrt, by rw [ei, cb', hh], fun hne => ⟨by omega, hlt2, lf[q], hc', fun b88 w89 e88 e89 => ?_⟩, fun heq r94 e94 => ?_⟩
            · have h89 := h82.alloc' e88 e89
              obtain ⟨nv', w90, hr2, ho2, hnv'⟩ := vecE_append (n := 1) (P := Try.prog) (t := 23) (ty := 23) (e := 3) (bytes := 8) (z := .int .i64 0) (f := intC) (a := some ⟨b88, 0, none⟩) (c := 1) (ys := [lf[q]]) Try.underlying23 Try.type3 rfl rfl rfl rfl intC_len intC_one (h89.perm (perm_l [_] (vecL 3 nv) _)) hnv
                (fun _ => ⟨_, rfl, h89.cellsAt 0 rfl (fun j v hj => by rw [Nat.zero_add, List.getElem?_toArray]; simpa [intC] using hj)⟩) (by simp only [List.length_singleton]; omega) (by simp only [List.length_singleton, maxLen]; omega)
              refine ⟨_, _, _, w90, hr2, fun r92 e92 => ?_⟩
              rw [wrap_id (by omega) (by omega)] at e92
              have e1 : (lf.take (q + 1)).filter (fun x => !decide (x = hrt)) = (lf.take q).filter (fun x => !decide (x = hrt)) ++ [lf[q]] := by
                rw [htk, List.filter_append]; simp [hne]
              exact ⟨_, by omega, q + 1, nv', rfl, by omega, by omega, rfl, by rw [e1]; simp, rfl, (ho2.perm (perm_l [_] (vecL 3 nv') _).symm).tail rfl, by rw [e1]; exact hnv'⟩
            · rw [wrap_id (by omega) (by omega)] at e94
              have e1 : (lf.take (q + 1)).filter (fun x => !decide (x = hrt)) = (lf.take q).filter (fun x => !decide (x = hrt)) := by
                rw [htk, List.filter_append]; simp [heq]
              exact ⟨_, by omega, q + 1, nv, rfl, by omega, by omega, rfl, by rw [e1], rfl, h82, by rw [e1]; exact hnv⟩
          · have e : q = lf.length := by omega
            subst e
            rw [List.take_length] at hnv
            rw [wrap_id (by omega) (by omega)] at e96
            have hle : (lf.filter fun x => !decide (x = hrt)).length ≤ lf.length := List.length_filter_le _ _
            refine ⟨_, by omega, i + 1, lf.filter fun x => !decide (x = hrt), nv, t4, rfl, by omega, by omega, rfl, by rw [List.take_length], rfl, ?_, q1, q2, q3, q4, q5, hnv, fun x hx => g7 x (List.mem_filter.1 hx).1, by omega, q9⟩
            refine (h82.perm (perm_l (vecL 3 nv) t4.L _)).sub ?_
            exact (List.Sublist.refl _).append ((List.Sublist.refl _).append (List.nil_sublist _))
        refine at_cb (n := t3.tb) g2 ?_
        refine s13 h71 g1 (fun hn => ⟨_, rfl, ?_⟩) fun w77 t4 ps h0 h1 hps h77 ht4 hT4 => ⟨_, rfl, ?_⟩
        · have hnl : hrt ∉ lf := fun hm => hn (by have := g7 hrt hm; rw [g3]; exact this)
          have hf : (lf.filter fun x => !decide (x = hrt)) = lf := List.filter_eq_self.2 fun x hx => by
            have : x ≠ hrt := fun e => hnl (e ▸ hx)
            simp [this]
          exact build w71 t3 h71 g1 g2 g3 g4 (by rw [hf]; exact g5) (by rw [hf]; exact g9)
        · rw [g5] at hps hT4
          obtain ⟨k1, k2, k3, k4⟩ := handle_one (by omega) g7 h0 hps
          rw [k1] at hT4
          have hlt4 : hrt.toNat < t3.Es.length := by omega
          have ehr : ((hrt.toNat : Nat) : Int) = hrt := by omega
          refine build w77 t4 h77 ht4 (hT4.tb.trans g2) (by rw [hT4.Es, List.length_set]; exact g3) (hT4.begun.trans g4) hT4.sh fun x hx hnx e he => ?_
          rw [hT4.Es, hartE_set hlt4, ehr] at he
          by_cases hxh : x = hrt
          · rw [if_pos hxh] at he
            by_cases hm : hrt ∈ lf
            · exact handleE_gone k4 (fun e => by have := k2 hm; rw [e] at this; cases this) e he
            · rw [k3 hm] at he
              have he : e ∈ hartE t3.Es hrt := he
              exact g9 x hx (by rw [hxh]; exact hm) e (by rw [hxh]; exact he)
          · rw [if_neg hxh] at he
            refine g9 x hx (fun hm => hnx (List.mem_filter.2 ⟨hm, by simpa using hxh⟩)) e he
  · refine ⟨fun m v w' => ∃ (i : Nat) (t' : TlbG), m = ops.length - i ∧ v = i ∧ i ≤ ops.length ∧ Own w0 Im w' (t'.L ++ []) ∧ TlbOk t' ∧ t'.tb = t.tb ∧ t'.Es.length = 4 ∧ t'.begun = 0 ∧ t'.sh = (fun _ => none), ⟨_, 0, t, rfl, rfl, by omega, h10, ht, rfl, hl4, hbg, hsh⟩, ?_⟩
    rintro m v w55 ⟨i, t1, rfl, rfl, hi, h55, ht1, htb1, hlE1, hb1, hs1⟩
    refine ⟨fun hlt => ?_, fun hge => ⟨t1, h55, ht1, htb1, hlE1, hb1, hs1⟩⟩
    have hi' : i < ops.length := by omega
    have ei : ((i : Nat) : Int).toNat = i := by omega
    obtain ⟨b56, o57, ea, _, _⟩ := hops.get h55 hi'
    have h55 := h55.drew
    obtain ⟨hc, hk, _⟩ := opKey hops h55 hi' ea
    refine ⟨_, _, ea, by omega, hlt, by omega, hlt, by omega, hlt, _, by rw [ei]; exact hc 1 (by omega), ops[i].key.1, ops[i].key.2, by rw [ei]; exact hk, _, by rw [ei]; exact hc 4 (by omega), ?_⟩
    refine at_cb (n := t1.tb) htb1 ?_
    refine s9 (k := ops[i].key) h55 ht1 (fun _ w63 h63 => ⟨_, rfl, fun r64 e64 => ?_⟩) fun w63 t2 _ _ h63 ht2 hT2 => ⟨_, rfl, fun r64 e64 => ?_⟩
    · rw [wrap_id (by omega) (by omega)] at e64
      exact ⟨_, by omega, i + 1, t1, rfl, by omega, by omega, h63, ht1, htb1, hlE1, hb1, hs1⟩
    · rw [wrap_id (by omega) (by omega)] at e64
      exact ⟨_, by omega, i + 1, t2, rfl, by omega, by omega, h63, ht2, hT2.tb.trans htb1, by rw [hT2.Es, List.length_set]; exact hlE1, hT2.begun.trans hb1, hT2.sh.trans hs1⟩
end
end Go.Proofs.Ytdhdbdpemejpjaa
