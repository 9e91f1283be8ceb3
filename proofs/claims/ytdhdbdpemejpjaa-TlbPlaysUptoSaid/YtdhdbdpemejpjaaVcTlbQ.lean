/- A part of the proof: lemmas. -/
import Derived.Test.YtdhdbdpemejpjaaVcTlbP
namespace Go.Proofs.Ytdhdbdpemejpjaa
open Go Go.Vc
set_option maxRecDepth 100000
set_option linter.unusedVariables false

def opA (o : Op) : Array Value := #[.int .i64 o.kind, .int .i64 o.hart, .int .i64 o.key.1, .int .i64 o.key.2, .int .u32 o.entry, .int .i64 o.n, .slice o.ta o.tl o.tc]
theorem reads_in {w0 : World} {Im : Mem} {a : Option Addr} {l : Nat} {ts : List Int} (hi : InE Im intC 1 a l ts) (Fr : List (Nat × Obj)) : Reads w0 Im a ts Fr := by
  intro w' A ho j y hj
  have hj' := (List.getElem?_eq_some_iff.1 hj).1
  obtain ⟨b, o, e1, e2⟩ := ints_at hi ho hj'
  refine ⟨b, o, e1, ?_⟩
  rw [e2]
  rw [List.getElem?_eq_getElem hj'] at hj
  rw [Option.some.inj hj]
theorem reads_vec {w0 : World} {Im : Mem} {v : VecB} {ts : List Int} (hv : VecE intC 1 v ts) (Fr : List (Nat × Obj)) : Reads w0 Im (vecA v) ts (vecL 3 v ++ Fr) := by
  intro w' A ho j y hj
  have hj' := (List.getElem?_eq_some_iff.1 hj).1
  obtain ⟨g, e1, e2⟩ := int_at ho (fun p hp => by simp [hp]) hv hj'
  refine ⟨g, 0, e1, ?_⟩
  rw [e2]
  rw [List.getElem?_eq_getElem hj'] at hj
  rw [Option.some.inj hj]
section
variable {w0 w : World} {Im : Mem} {Fr L : List (Nat × Obj)} {t : TlbG} {x : RefG} {R : Ending → World → Prop}

/-- step -/
theorem s18 (h : Own w0 Im w (t.L ++ (x.L ++ Fr))) (ht : TlbOk t) (hx : RefOk x) (hb : Both t x) (hA : x.A.length < 2147483647) {o : Op} {ts : List Int} (hts : InE Im intC 1 o.ta o.tl ts) (htl : ts.length ≤ 17592186043904)
    (hR : ∀ w' t' x', Own w0 Im w' (t'.L ++ (x'.L ++ Fr)) → TlbOk t' → RefOk x' → Both t' x' → t'.tb = t.tb → x'.rb = x.rb → x'.A.length ≤ x.A.length + 1 → R (.returned (.bool true)) w') :
    Calls Try.prog 18 #[.pointer (some ⟨t.tb, 0, none⟩), .pointer (some ⟨x.rb, 0, none⟩), .agg (opA o)] w R := by
  apply vc18
  unfold Vc18
  intro b10 w11 e10 e11
  have h11 := h.alloc' e10 e11
  obtain ⟨B, hB⟩ : ∃ B : Nat × Obj, B = (b10, .cells (opA o) 34 (0, 0)) := ⟨_, rfl⟩
  have h11 : Own w0 Im w11 (t.L ++ (x.L ++ (B :: Fr))) := h11.perm (by
    rw [hB]
    refine by_count fun a => ?_
    simp only [List.count_append, List.count_cons, opA]
    omega)
  have hop : ∀ {w' : World} {l : List (Nat × Obj)}, Own w0 Im w' l → B ∈ l → ∀ k, w'.cell? ⟨b10, k, none⟩ = (#[.int .i64 o.kind, .int .i64 o.hart, .int .i64 o.key.1, .int .i64 o.key.2, .int .u32 o.entry, .int .i64 o.n, .slice o.ta o.tl o.tc] : Array Value)[k]? := fun h hm k => cell_of (h.mem (by rw [hB] at hm; exact hm)) k
  have hend : ∀ {w' : World} {t' : TlbG} {x' : RefG}, Own w0 Im w' (t'.L ++ (x'.L ++ (B :: Fr))) → Own w0 Im w' (t'.L ++ (x'.L ++ Fr)) := fun h => h.sub (List.Sublist.append_left (List.Sublist.append_left (List.sublist_cons_self _ _) _) _)
  have mB : ∀ {t' : TlbG} {x' : RefG}, B ∈ t'.L ++ (x'.L ++ (B :: Fr)) := by simp
  have mB2 : ∀ {t' : TlbG} {x' : RefG}, B ∈ x'.L ++ (t'.L ++ (B :: Fr)) := by simp
  have hlen := hb.len
  have hEl : t.Es.length = x.Es.length := by rw [hb.Es]
  have hend0 : ∀ {w'}, Own w0 Im w' (t.L ++ (x.L ++ (B :: Fr))) → R (.returned (.bool true)) w' := fun h => hR _ t x (hend h) ht hx hb rfl rfl (by omega)
  have hd := h11.drew
  refine ⟨_, hop h11 mB _, fun _ => ?_, fun _ => ⟨fun _ => ?_, fun _ => ⟨fun _ => ?_, fun _ => ⟨fun _ => ?_, fun _ => ⟨fun _ => ?_, fun _ => ⟨fun _ => ?_, fun _ => ?_⟩⟩⟩⟩⟩⟩
  · refine ⟨_, hop h11 mB _, _, _, cellsAt2 (hop h11 mB _) (hop h11 mB _), ?_⟩
    refine s16 (k := o.key) h11 ht fun w18 h18 => ⟨_, _, rfl, _, hop h18 mB _, _, _, cellsAt2 (hop h18 mB _) (hop h18 mB _), ?_⟩
    refine s25 (k := o.key) (h18.perm (perm_l _ _ _)) hx fun w25 h25 => ⟨_, _, rfl, fun _ => ?_, fun e => absurd (by rw [hb.Es]) e⟩
    rw [hb.Es, beq_self_eq_true]
    exact hend0 (h25.perm (perm_l _ _ _))
  · refine ⟨_, hop hd mB _, _, _, cellsAt2 (hop hd mB _) (hop hd mB _), _, hop hd mB _, _, hop hd mB _, _, _, cellsAt2 (hop hd mB _) (hop hd mB _), _, hop hd mB _, ?_⟩
    refine s9 (k := o.key) hd ht (fun hno w36 h36 => ⟨_, rfl, hop h36 mB _, cellsAt2 (hop h36 mB _) (hop h36 mB _), hop h36 mB _, ?_⟩) fun w36 t1 h0 h1 h36 ht1 hT1 => ⟨_, rfl, hop h36 mB _, cellsAt2 (hop h36 mB _) (hop h36 mB _), hop h36 mB _, ?_⟩
    · refine s26 (k := o.key) (h36.perm (perm_l _ _ _)) hx (fun _ w38 h38 => ⟨_, rfl, ?_⟩) fun w38 x1 h0 h1 => absurd ⟨h0, by rw [hEl]; exact h1⟩ hno
      exact hend0 (h38.perm (perm_l _ _ _))
    · refine s26 (k := o.key) (h36.perm (perm_l _ _ _)) hx (fun hno => absurd ⟨h0, by rw [← hEl]; exact h1⟩ hno) fun w38 x1 _ _ h38 hx1 hT2 => ⟨_, rfl, ?_⟩
      have hAl : x1.A.length = x.A.length := by rw [← Rsh_len, hT2.sh, Rsh_len]
      exact hR _ t1 x1 (hend (h38.perm (perm_l _ _ _))) ht1 hx1 ⟨by rw [hT1.size, hT2.size, hb.size], by rw [hT1.Es, hT2.Es, hb.Es, hb.size], by rw [hT1.begun, hb.begun, hAl], by rw [hT1.sh, hT2.sh, hb.sh]⟩ hT1.tb hT2.rb (by omega)
  · refine ⟨_, hop hd mB _, _, hop hd mB _, _, hop hd mB _, _, hop hd mB _, ?_⟩
    refine s15 hd ht fun w44 t1 h44 ht1 hT1 => ⟨_, rfl, hop h44 mB _, hop h44 mB _, ?_⟩
    refine s27 (h44.perm (perm_l _ _ _)) hx fun w46 x1 h46 hx1 hT2 => ⟨_, rfl, ?_⟩
    have hAl : x1.A.length = x.A.length := by rw [← Rsh_len, hT2.sh, Rsh_len]
    rw [hb.Es, decide_eq_true rfl]
    exact hR _ t1 x1 (hend (h46.perm (perm_l _ _ _))) ht1 hx1 ⟨by rw [hT1.size, hT2.size, hb.size], by rw [hT1.Es, hT2.Es, hb.Es], by rw [hT1.begun, hb.begun, hAl], by rw [hT1.sh, hT2.sh, hb.sh]⟩ hT1.tb hT2.rb (by omega)
  · refine ⟨_, hop hd mB _, _, _, _, hop hd mB _, fun b49 w50 e49 e50 => ?_⟩
    have h50 := hd.alloc' e49 e50
    have mB3 : B ∈ (b49, Obj.cells (#[] : Array Value) 3 (0, 0)) :: (t.L ++ (x.L ++ (B :: Fr))) := by simp
    refine ⟨hop h50 mB3 _, hop h50 mB3 _, ?_⟩
    have hl := hts.len
    obtain ⟨v', w51, hr, h51, hv'⟩ := vecE_append (n := 1) (P := Try.prog) (t := 23) (ty := 23) (e := 3) (bytes := 8) (z := .int .i64 0) Try.underlying23 Try.type3 rfl rfl rfl rfl intC_len intC_one (x := some (b49, 0, [])) (xs := ([] : List Int)) (L := t.L ++ (x.L ++ (B :: Fr))) h50
      ⟨rfl, Nat.le_refl _, Nat.zero_le _, rfl, rfl⟩ (a := o.ta) (c := o.tc) (ys := ts) (fun hne => reads_cells (Fr := []) (A := (b49, Obj.cells (#[] : Array Value) 3 (0, 0)) :: (t.L ++ (x.L ++ (B :: Fr)))) (reads_in hts []) (by rw [List.append_nil]; exact h50) hne) (by simp only [List.length_nil]; omega) (by simp only [List.length_nil, maxLen]; omega)
    simp only [List.length_nil, Nat.zero_add, List.nil_append] at hr hv'
    rw [hl]
    refine ⟨_, _, _, w51, hr, ?_⟩
    have mB4 : ∀ {t' : TlbG} {x' : RefG}, B ∈ vecL 3 v' ++ (t'.L ++ (x'.L ++ (B :: Fr))) := by simp
    refine ⟨hop h51 mB4 _, ?_⟩
    have p1 : ∀ (t' : TlbG) (x' : RefG), (vecL 3 v' ++ (t'.L ++ (x'.L ++ (B :: Fr)))).Perm (t'.L ++ (vecL 3 v' ++ (x'.L ++ (B :: Fr)))) := fun t' x' => perm_l _ _ _
    have mB5 : ∀ {t' : TlbG} {x' : RefG}, B ∈ t'.L ++ (vecL 3 v' ++ (x'.L ++ (B :: Fr))) := by simp
    have p2 : ∀ (t' : TlbG) (x' : RefG), (t'.L ++ (vecL 3 v' ++ (x'.L ++ (B :: Fr)))).Perm (x'.L ++ (t'.L ++ (vecL 3 v' ++ (B :: Fr)))) := fun t' x' => by_count fun a => by
      simp only [List.count_append]; omega
    have p3 : ∀ {w' : World} (t' : TlbG) (x' : RefG), Own w0 Im w' (x'.L ++ (t'.L ++ (vecL 3 v' ++ (B :: Fr)))) → Own w0 Im w' (t'.L ++ (x'.L ++ (B :: Fr))) := fun t' x' h => (h.perm (L' := vecL 3 v' ++ (t'.L ++ (x'.L ++ (B :: Fr)))) (by_count fun a => by
      simp only [List.count_append]; omega)).sub (List.sublist_append_right _ _)
    have h51' := h51.perm (p1 t x)
    refine s10 (Fr := vecL 3 v' ++ (x.L ++ (B :: Fr))) (ts := ts) (c := vecC v') h51' ht (reads_vec hv' _) (by omega) (fun hbad w55 h55 => ⟨_, _, rfl, ?_⟩) (fun _ hfull => absurd hfull (by rw [hb.begun]; omega)) fun w55 t1 hok _ h55 ht1 hT1 => ⟨_, _, rfl, ?_⟩
    · refine ⟨_, hop h55 mB5 _, _, _, _, hop h55 mB5 _, ?_⟩
      rw [hl]
      refine s28 (Fr := t.L ++ (vecL 3 v' ++ (B :: Fr))) (ts := ts) (h55.perm (p2 t x)) hx (reads_in hts _) (by omega) (by omega) (fun _ w60 h60 => ⟨_, _, rfl, fun _ => ?_, fun e => absurd rfl e⟩) fun w60 x1 hok => absurd (by rw [Es_len, hlen]; exact hok) hbad
      rw [decide_eq_true rfl]
      exact hend0 (p3 _ _ h60)
    · refine ⟨_, hop h55 mB5 _, _, _, _, hop h55 mB5 _, ?_⟩
      rw [hl]
      rw [Es_len, hlen] at hok
      refine s28 (Fr := t1.L ++ (vecL 3 v' ++ (B :: Fr))) (ts := ts) (h55.perm (p2 t1 x)) hx (reads_in hts _) (by omega) (by omega) (fun hbad => absurd hok hbad) fun w60 x1 _ h60 hx1 hT2 => ⟨_, _, rfl, fun _ => ?_, fun e => absurd (by rw [hb.begun]) e⟩
      rw [decide_eq_true rfl]
      have hAl : x1.A.length = x.A.length + 1 := by rw [← Rsh_len, hT2.sh, List.length_append, Rsh_len]; rfl
      refine hR _ t1 x1 (hend (p3 _ _ h60)) ht1 hx1 ⟨by rw [hT1.size, hT2.size, hb.size], by rw [hT1.Es, hT2.Es, hb.Es], by rw [hT1.begun, hb.begun, hAl]; omega, ?_⟩ hT1.tb hT2.rb (by omega)
      rw [hT1.sh, hT2.sh, hb.sh, hb.begun, ← start_sh, Rsh_len]
  · refine ⟨_, hop hd mB _, _, hop hd mB _, ?_⟩
    by_cases hin : 0 ≤ o.hart ∧ o.hart < t.Es.length
    · refine s13 hd ht (fun hno => absurd hin hno) fun w65 t1 ps _ _ hps h65 ht1 hT1 => ⟨_, rfl, hop h65 mB _, ?_⟩
      refine s29 (h65.perm (perm_l _ _ _)) hx (by omega) fun w67 x1 h67 hx1 hT2 => ⟨_, rfl, ?_⟩
      have e0 : ((o.hart.toNat : Nat) : Int) = o.hart := by omega
      have hp2 := pend_of x.sh o.hart.toNat
      rw [← hb.sh] at hp2
      have ep := pend_uniq hps hp2
      rw [e0] at ep
      have hAl : x1.A.length = x.A.length := by rw [← Rsh_len, hT2.sh, handAt_len, Rsh_len]
      have hx1sh := hT2.sh
      have hx1Es := hT2.Es
      rw [← Rsh_len] at hx1sh hx1Es ⊢
      rw [← ep, decide_eq_true rfl]
      refine hR _ t1 x1 (hend (h67.perm (perm_l _ _ _))) ht1 hx1 ⟨by rw [hT1.size, hT2.size, hb.size], ?_, by rw [hT1.begun, hb.begun, hAl], ?_⟩ hT1.tb hT2.rb (by omega)
      · rw [hT1.Es, hx1Es]
        have := flush_Es (A := x.sh) (Es := x.Es) (h := o.hart.toNat) (by rw [← hb.Es]; omega) x.sh.length (Nat.le_refl _)
        rw [e0] at this
        rw [this, hb.Es, hb.sh, ep]
      · rw [hT1.sh, hx1sh, hb.sh, ep]
        have := hand_sh (A := x.sh) (n := x.H.length) hx.hi (fun s hs => (hx.range s hs).1) o.hart.toNat
        rw [e0] at this
        exact this
    · refine s13 hd ht (fun _ => ⟨_, rfl, hop hd mB _, ?_⟩) fun w65 t1 ps h0 h1 => absurd ⟨h0, h1⟩ hin
      have hno : ¬ (0 ≤ o.hart ∧ o.hart < (x.H.length : Nat)) := by rw [← hlen, ← Es_len]; exact hin
      refine s29 (hd.perm (perm_l _ _ _)) hx (by omega) fun w67 x1 h67 hx1 hT2 => ⟨_, rfl, ?_⟩
      have hx1sh := hT2.sh
      have hx1Es := hT2.Es
      rw [pend_none (hx.out hno)]
      rw [hand_none (hx.out hno) _ (by rw [Rsh_len]; omega)] at hx1sh
      rw [flush_none (hx.out hno) _ (by rw [Rsh_len]; omega)] at hx1Es
      have hAl : x1.A.length = x.A.length := by rw [← Rsh_len, hx1sh, Rsh_len]
      exact hR _ t x1 (hend (h67.perm (perm_l _ _ _))) ht hx1 ⟨by rw [hT2.size, hb.size], by rw [hx1Es, hb.Es], by rw [hb.begun, hAl], by rw [hx1sh, hb.sh]⟩ rfl hT2.rb (by omega)
  · refine ⟨_, hop hd mB _, _, hop hd mB _, ?_⟩
    refine s12 hd ht fun w71 h71 => ⟨_, rfl, hop h71 mB _, ?_⟩
    refine s30 (h71.perm (perm_l _ _ _)) hx (by omega) ⟨_, rfl, ?_⟩
    have := over_eq x.sh o.n
    rw [Rsh_len] at this
    rw [hb.begun, hb.sh, this, beq_self_eq_true]
    exact hend0 h71
  · refine s19 h11 ht hx hb (by omega) fun w75 h75 => ⟨_, rfl, hend0 h75⟩
/-- The law TlbPlays, for so many calls. -/
theorem s6 (h : Own w0 Im w []) {a : Option Addr} {l k : Nat} {ops : List Op} (hops : InE Im opC 7 a l ops) (hl : l ≤ 1048576) (hts : ∀ o ∈ ops, ∃ ts, InE Im intC 1 o.ta o.tl ts ∧ ts.length ≤ 17592186043904) {harts size : Int}
    (hR : ∀ w', Own w0 Im w' [] → R (.returned (.bool true)) w') : Calls Try.prog 6 #[.int .i64 harts, .int .i64 size, .slice a l k] w R := by
  apply vc6
  unfold Vc6
  have hlen := hops.len
  have hdone : ∀ w' L, Own w0 Im w' L → R (.returned (.bool true)) w' := fun w' L ho => hR w' (ho.sub (List.nil_sublist _))
  refine s7 h (fun hno => ⟨_, _, rfl, ?_⟩) fun w6 t h1 h2 h3 h4 h6 ht hsz hEs hbg hsh => ⟨_, _, rfl, ?_⟩
  · refine s17 h (fun _ => ⟨_, _, rfl, ?_⟩) fun w10 x h1 h2 h3 h4 => absurd ⟨h1, h2, h3, h4⟩ hno
    refine s8 h fun w13 h13 => ⟨_, rfl, fun _ => ⟨fun e => absurd rfl e, fun _ => ⟨fun e => (by cases e), fun _ => ?_⟩⟩, fun e => (by cases e)⟩
    refine ⟨fun w' => Own w0 Im w' [], fun w15 h15 => ⟨fun _ => hR _ h15, fun e => absurd rfl e⟩, fun m v w' => Own w0 Im w' [], ⟨0, h13⟩, fun m v w' h' => ⟨fun _ => ⟨fun e => absurd rfl e, fun _ => h'⟩, fun _ => h'⟩⟩
  · refine s17 h6 (fun hno => absurd ⟨h1, h2, h3, h4⟩ hno) fun w10 x _ _ _ _ h10 hx hxs hxE hxA => ⟨_, _, rfl, ?_⟩
    refine s8 h10 fun w13 h13 => ⟨_, rfl, fun _ => ⟨fun e => absurd rfl e, fun _ => ⟨fun e => (by cases e), fun _ => ?_⟩⟩, fun e => (by cases e)⟩
    have hA0 : x.A.length = 0 := by rw [← Rsh_len, hxA]; rfl
    have hb : Both t x := ⟨by rw [hsz, hxs], by rw [hEs, hxE], by rw [hbg, hA0]; rfl, by
      rw [hsh, hxA]
      funext id
      unfold shOf
      rw [if_neg (fun hc => hc.2.2 (by rw [shG_no (Nat.zero_le _)]))]⟩
    refine ⟨fun w' => ∃ t1 x1, Own w0 Im w' (t1.L ++ (x1.L ++ [])) ∧ TlbOk t1 ∧ RefOk x1 ∧ Both t1 x1 ∧ t1.tb = t.tb ∧ x1.rb = x.rb ∧ x1.A.length ≤ 1048576, ?_, ?_⟩
    · rintro w15 ⟨t1, x1, h15, ht1, hx1, hb1, etb, erb, hA1⟩
      refine ⟨fun e => (by cases e), fun _ => ?_⟩
      rw [← etb, ← erb]
      exact s19 h15 ht1 hx1 hb1 (by omega) fun w17 h17 => ⟨_, rfl, hdone _ _ h17⟩
    · refine ⟨fun m v w' => ∃ (j : Nat) (t1 : TlbG) (x1 : RefG), m = l - j ∧ v = j ∧ j ≤ l ∧ Own w0 Im w' (t1.L ++ (x1.L ++ [])) ∧ TlbOk t1 ∧ RefOk x1 ∧ Both t1 x1 ∧ t1.tb = t.tb ∧ x1.rb = x.rb ∧ x1.A.length ≤ j,
        ⟨_, 0, t, x, rfl, rfl, by omega, h13.perm (perm_l _ _ _), ht, hx, hb, rfl, rfl, by omega⟩, ?_⟩
      rintro m v w21 ⟨j, t1, x1, rfl, rfl, hj, h21, ht1, hx1, hb1, etb, erb, hA1⟩
      refine ⟨fun hlt => ⟨fun _ => ?_, fun e => (by cases e)⟩, fun _ => ⟨t1, x1, h21, ht1, hx1, hb1, etb, erb, by omega⟩⟩
      have hj' : j < ops.length := by omega
      obtain ⟨b, o, ea, hc, _⟩ := hops.get h21 hj'
      obtain ⟨ts, hti, htl⟩ := hts ops[j] (List.getElem_mem hj')
      refine ⟨_, _, ea, by omega, hlt, _, _, _, _, _, _, _, _, _, hc, ?_⟩
      rw [← etb, ← erb]
      refine s18 (o := ops[j]) h21 ht1 hx1 hb1 (by omega) hti htl fun w32 t2 x2 h32 ht2 hx2 hb2 etb2 erb2 hA2 => ⟨_, rfl, fun _ r34 e34 => ?_, fun e => (by cases e)⟩
      rw [wrap_id (by omega) (by omega)] at e34
      exact ⟨_, by omega, j + 1, t2, x2, rfl, by omega, by omega, h32, ht2, hx2, hb2, etb2, erb2, by omega⟩
end
end Go.Proofs.Ytdhdbdpemejpjaa
