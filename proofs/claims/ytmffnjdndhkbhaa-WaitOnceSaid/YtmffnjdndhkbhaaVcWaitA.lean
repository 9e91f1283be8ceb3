/- A part of the proof: lemmas. -/
import Derived.Test.YtmffnjdndhkbhaaVcGenA
import Derived.Test.YtmffnjdndhkbhaaVcAv
import Derived.Test.YtmffnjdndhkbhaaVcKeys
import Derived.Test.YtmffnjdndhkbhaaVcRange
import Derived.Test.YtmffnjdndhkbhaaVcIn
namespace Go.Proofs.Ytmffnjdndhkbhaa
open Go Go.Vc
set_option maxRecDepth 100000
set_option linter.unusedVariables false

theorem wrap_id {n : Int} (h1 : -9223372036854775808 ≤ n) (h2 : n ≤ 9223372036854775807) : IntKind.wrap .i64 n = n := by rw [IntKind.wrap_i64]; omega
/-- A channel. -/
abbrev Chan := Int × Int × Int
def chanC (a : Chan) : List Value := [.int .i64 a.1, .int .i64 a.2.1, .int .i64 a.2.2]
theorem chanC_len (a : Chan) : (chanC a).length = 3 := rfl
theorem chanC_one (a : Chan) : ∀ u ∈ chanC a, u.oneCell' = true := by intro u hu; simp [chanC] at hu; rcases hu with rfl | rfl | rfl <;> rfl
def chanE (a : Chan) : Value := .agg (chanC a).toArray
theorem chan_inj (a b : Chan) : (plainB (.int .i64 a.1) (.int .i64 b.1) && (plainB (.int .i64 a.2.1) (.int .i64 b.2.1) && plainB (.int .i64 a.2.2) (.int .i64 b.2.2))) = decide (a = b) := by
  simp only [plainB, Prod.ext_iff]
  by_cases h1 : a.1 = b.1 <;> by_cases h2 : a.2.1 = b.2.1 <;> by_cases h3 : a.2.2 = b.2.2 <;> simp [h1, h2, h3]
theorem keyChan : KeyLaw chanE Try.prog 29 :=
  keyLaw3 (K := 29) Try.underlying29 (by kernel_rfl) (by decide) (by decide) (by decide) rfl rfl rfl (fun _ => rfl) (fun _ => Try.underlying3) (fun _ => Try.underlying3) (fun _ => Try.underlying3) chan_inj
theorem keyInt : KeyLaw (Vc.encI .i64) Try.prog 3 := keyLaw_int Try.underlying3
theorem chan_guard {op : BinOp} {x y : Operand} (a b : Chan) (w : World) : (eqGuard op 29 x y (chanE a) (chanE b)).run Try.prog w = .ok () w := by
  cases op <;> (unfold eqGuard chanE; simp)
theorem chan_equal (a b : Chan) (w : World) : (Op.equal 29 (chanE a) (chanE b)).run Try.prog w = .ok (decide (a = b)) w := by
  have h : (Op.equal 29 (chanE a) (chanE b)).run Try.prog w = .ok (plainB (.int .i64 a.1) (.int .i64 b.1) && (plainB (.int .i64 a.2.1) (.int .i64 b.2.1) && plainB (.int .i64 a.2.2) (.int .i64 b.2.2))) w :=
    key_equal3 (K := 29) Try.underlying29 (by kernel_rfl) (by decide) (by decide) (by decide) rfl rfl rfl Try.underlying3 Try.underlying3 Try.underlying3 Try.underlying3 Try.underlying3 Try.underlying3
  rw [chan_inj] at h; exact h
theorem chan_eq (a b : Chan) (w : World) : (binOp .eql 29 (chanE a) (chanE b)).run Try.prog w = .ok (.bool (decide (a = b))) w := by
  have h := chan_equal a b w
  unfold binOp
  simp [chanE]
  unfold chanE at h
  rw [h]; rfl
theorem chan_ne (a b : Chan) (w : World) : (binOp .neq 29 (chanE a) (chanE b)).run Try.prog w = .ok (.bool (!decide (a = b))) w := by
  have h := chan_equal a b w
  unfold binOp
  simp [chanE]
  unfold chanE at h
  rw [h]; rfl
def intC (n : Int) : List Value := [.int .i64 n]
theorem intC_len (n : Int) : (intC n).length = 1 := rfl
theorem intC_one (n : Int) : ∀ u ∈ intC n, u.oneCell' = true := by intro u hu; simp [intC] at hu; subst hu; rfl
section
variable {w0 w : World} {Im : Mem} {Fr L : List (Nat × Obj)} {R : Ending → World → Prop}
theorem int_at {v : VecB} {ps : List Int} (h : Own w0 Im w L) (hm : ∀ p ∈ vecL 3 v, p ∈ L) (hv : VecE intC 1 v ps) {j : Nat} (hj : j < ps.length) : ∃ g, vecA v = some ⟨g, 0, none⟩ ∧ w.cell? ⟨g, 0 + j, none⟩ = some (.int .i64 ps[j]) := by
  obtain ⟨g, e1, e2⟩ := vecE_cell (e := 3) intC_len h hm hv hj
  refine ⟨g, e1, ?_⟩
  have := e2 0 (by omega)
  rw [Nat.mul_one, Nat.add_zero] at this
  rw [Nat.zero_add]; exact this

/-- slices.Clone -/
theorem s19 {x : VecB} {ks : List Chan} (h : Own w0 Im w (vecL 29 x ++ L)) (hx : VecE chanC 3 x ks) (hb : ks.length * 24 ≤ 140737488355328)
    (hR : ∀ w' x', Own w0 Im w' (vecL 29 x' ++ (vecL 29 x ++ L)) → VecE chanC 3 x' ks → R (.returned (.slice (vecA x') ks.length (vecC x'))) w') :
    Calls Try.prog 19 #[.slice (vecA x) ks.length (vecC x)] w R := by
  apply vc19
  unfold Vc19
  refine ⟨fun e => ?_, fun he b2 w3 e2 e3 => ?_⟩
  · have hn : ks = [] := hx.none_nil e
    subst hn
    exact hR w none h VecE.nil
  · have h3 := h.alloc' e2 e3
    obtain ⟨x', w', hr, ho, hx'⟩ := vecE_append (n := 3) (P := Try.prog) (t := 27) (ty := 27) (e := 29) (bytes := 24) (z := Value.agg #[.int .i64 0, .int .i64 0, .int .i64 0]) (L := vecL 29 x ++ L) (x := some (b2, 0, [])) (xs := ([] : List Chan)) (a := vecA x) (c := vecC x) (ys := ks) Try.underlying27 Try.type29 rfl rfl rfl rfl chanC_len chanC_one h3 ⟨rfl, Nat.le_refl _, Nat.zero_le _, rfl, rfl⟩
      (fun hne => by
        obtain ⟨g, ea, hc⟩ := vecE_all (e := 29) chanC_len h3 (fun p hp => List.mem_cons_of_mem _ (List.mem_append_left _ hp)) hx (List.length_pos_iff.2 hne) 0
        exact ⟨_, ea, by simpa using hc⟩) (by simp only [List.length_nil]; omega) (by simp only [List.length_nil, maxLen]; omega)
    simp only [List.length_nil, Nat.zero_add, List.nil_append] at hr hx'
    exact ⟨_, _, _, w', hr, hR w' x' ho hx'⟩


/-- slices.Clone -/
theorem s20 {x : VecB} {ks : List Int} (h : Own w0 Im w (vecL 3 x ++ L)) (hx : VecE intC 1 x ks) (hb : ks.length * 8 ≤ 140737488355328)
    (hR : ∀ w' x', Own w0 Im w' (vecL 3 x' ++ (vecL 3 x ++ L)) → VecE intC 1 x' ks → R (.returned (.slice (vecA x') ks.length (vecC x'))) w') :
    Calls Try.prog 20 #[.slice (vecA x) ks.length (vecC x)] w R := by
  apply vc20
  unfold Vc20
  refine ⟨fun e => ?_, fun he b2 w3 e2 e3 => ?_⟩
  · have hn : ks = [] := hx.none_nil e
    subst hn
    exact hR w none h VecE.nil
  · have h3 := h.alloc' e2 e3
    obtain ⟨x', w', hr, ho, hx'⟩ := vecE_append (n := 1) (P := Try.prog) (t := 34) (ty := 34) (e := 3) (bytes := 8) (z := Value.int .i64 0) (L := vecL 3 x ++ L) (x := some (b2, 0, [])) (xs := ([] : List Int)) (a := vecA x) (c := vecC x) (ys := ks) Try.underlying34 Try.type3 rfl rfl rfl rfl intC_len intC_one h3 ⟨rfl, Nat.le_refl _, Nat.zero_le _, rfl, rfl⟩
      (fun hne => by
        obtain ⟨g, ea, hc⟩ := vecE_all (e := 3) intC_len h3 (fun p hp => List.mem_cons_of_mem _ (List.mem_append_left _ hp)) hx (List.length_pos_iff.2 hne) 0
        exact ⟨_, ea, by simpa using hc⟩) (by simp only [List.length_nil]; omega) (by simp only [List.length_nil, maxLen]; omega)
    simp only [List.length_nil, Nat.zero_add, List.nil_append] at hr hx'
    exact ⟨_, _, _, w', hr, hR w' x' ho hx'⟩


/-- slices.IndexFunc -/
theorem s39 {x : VecB} {ks : List Int} (hx : VecE intC 1 x ks) (hb : ks.length * 8 ≤ 140737488355328) (p : Int → Bool) {fv : Value} (J : World → Prop)
    (hJ : ∀ w', J w' → Own w0 Im w' (vecL 3 x ++ L)) (hJ0 : J w)
    (hdel : ∀ w' k R, J w' → k ∈ ks → (∀ w'', J w'' → R (.returned (.bool (p k))) w'') → Invoke Try.prog fv #[.int .i64 k] w' R)
    (hno : ∀ w', J w' → (∀ k ∈ ks, p k = false) → R (.returned (.int .i64 (-1))) w')
    (hyes : ∀ w' i (hi : i < ks.length), J w' → p ks[i] = true → (∀ j (hj : j < i), p (ks[j]'(by omega)) = false) → R (.returned (.int .i64 i)) w') :
    Calls Try.prog 39 #[.slice (vecA x) ks.length (vecC x), fv] w R := by
  apply vc39
  unfold Vc39
  refine ⟨fun m i w' => J w' ∧ ∃ k : Nat, i = k ∧ k ≤ ks.length ∧ m = ks.length - k ∧ ∀ j (hj : j < ks.length), j < k → p ks[j] = false, ⟨ks.length, hJ0, 0, rfl, by omega, rfl, fun j hj h0 => by omega⟩, ?_⟩
  rintro m i w' ⟨hj, k, rfl, hk, rfl, hall⟩
  refine ⟨fun hlt => ?_, fun hge => ?_⟩
  · have hkl : k < ks.length := by omega
    have ek : ((k : Nat) : Int).toNat = k := by omega
    obtain ⟨g, ea, hc⟩ := int_at (hJ w' hj) (fun p hp => List.mem_append_left _ hp) hx hkl
    refine ⟨g, 0, ea, by omega, by omega, _, hc, hdel w' _ _ hj (List.getElem_mem hkl) fun w'' hj'' => ⟨_, rfl, fun ht => ?_, fun hf r12 e12 => ?_⟩⟩
    · exact hyes w'' k hkl hj'' ht (fun j hj2 => hall j (by omega) hj2)
    · rw [wrap_id (by omega) (by omega)] at e12
      refine ⟨ks.length - (k + 1), by omega, hj'', k + 1, by omega, by omega, rfl, fun j hj2 h2 => ?_⟩
      by_cases e : j = k
      · subst e; exact hf
      · exact hall j hj2 (by omega)
  · have e : k = ks.length := by omega
    refine hno w' hj fun a ha => ?_
    obtain ⟨j, hj2, rfl⟩ := List.mem_iff_getElem.1 ha
    exact hall j hj2 (by omega)


/-- slices.DeleteFunc -/
theorem s34 {x : VecB} {ks : List Int} (h : Own w0 Im w (vecL 3 x ++ L)) (hx : VecE intC 1 x ks) (hb : ks.length * 8 ≤ 140737488355328) (p : Int → Bool) {fv : Value}
    (hdel : ∀ w' Fr k R, Own w0 Im w' (Fr ++ L) → k ∈ ks → (∀ w'', Own w0 Im w'' (Fr ++ L) → R (.returned (.bool (p k))) w'') → Invoke Try.prog fv #[.int .i64 k] w' R)
    (hR : ∀ w' x', Own w0 Im w' (vecL 3 x' ++ L) → VecE intC 1 x' (ks.filter fun k => !p k) → R (.returned (.slice (vecA x') (ks.filter (fun k => !p k)).length (vecC x'))) w') :
    Calls Try.prog 34 #[.slice (vecA x) ks.length (vecC x), fv] w R := by
  apply vc34
  unfold Vc34
  refine s39 (L := L) hx hb p (fun w' => Own w0 Im w' (vecL 3 x ++ L)) (fun _ h => h) h (fun w' k R hj hk hr => hdel w' (vecL 3 x) k R hj hk hr) (fun w' ho hall => ⟨_, rfl, fun _ => ?_, fun e => absurd rfl e⟩) (fun w' i hi ho hpi hbef => ⟨_, rfl, fun e => (by omega), fun _ => ?_⟩)
  · have e : ks.filter (fun k => !p k) = ks := List.filter_eq_self.2 fun k hk => by simp [hall k hk]
    have := hR w' x ho (by rw [e]; exact hx)
    rw [e] at this; exact this
  · have hcap := hx.cap
    let Inv : Nat → Int → Int → World → Prop := fun m vi vj w' => ∃ (j : Nat) (x' : VecB) (mid : List Int), m = ks.length - j ∧ vj = j ∧ j ≤ ks.length ∧ vi = ((ks.take j).filter fun k => !p k).length ∧ ((ks.take j).filter fun k => !p k).length + mid.length = j ∧
      Own w0 Im w' (vecL 3 x' ++ L) ∧ VecE intC 1 x' (((ks.take j).filter fun k => !p k) ++ mid ++ ks.drop j) ∧ vecA x' = vecA x ∧ vecC x' = vecC x
    refine ⟨fun vi w' => Inv 0 vi ks.length w', ?_, fun r11 e11 => ?_⟩
    · rintro vi w' ⟨j, x', mid, _, ej, hj, rfl, hmid, ho, hx', ea, ec⟩
      have ej' : j = ks.length := by omega
      subst ej'
      rw [List.take_length] at hmid hx' ⊢
      rw [List.drop_length, List.append_nil] at hx'
      have hl : ((ks.filter fun k => !p k) ++ mid).length = ks.length := by rw [List.length_append]; omega
      have et : (((ks.filter fun k => !p k).length : Nat) : Int).toNat = (ks.filter fun k => !p k).length := by omega
      refine ⟨by omega, by omega, fun a8 e8 => ?_⟩
      obtain ⟨x2, w9, hr, ea2, ec2, ho2, hx2⟩ := vecE_clear (n := 1) (P := Try.prog) (t := 34) (ty := 0) (e := 3) (z := Value.int .i64 0) Try.underlying34 Try.type3 rfl rfl (by intro u hu; simp [Value.cells] at hu; subst hu; rfl) (by omega) intC_len ho hx' (ks.filter fun k => !p k).length (by rw [hl]; omega)
      rw [hl, ea, ec] at hr
      rw [e8, et]
      refine ⟨w9, hr, by omega, by omega, fun a10 e10 => ?_⟩
      rw [List.take_left] at hx2
      have := hR w9 x2 ho2 hx2
      rw [ea2, ec2, ea, ec] at this
      rw [e10]; exact this
    · rw [wrap_id (by omega) (by omega)] at e11
      refine ⟨Inv, ⟨ks.length - (i + 1), i + 1, x, [ks[i]], rfl, by omega, by omega, ?_, ?_, ho, ?_, rfl, rfl⟩, ?_⟩
      · rw [kept_first hi hpi hbef, List.length_take]; omega
      · rw [kept_first hi hpi hbef]; simp; omega
      · rw [kept_first hi hpi hbef]
        have e1 : ks.take i ++ [ks[i]] ++ ks.drop (i + 1) = ks := by simp
        rw [e1]; exact hx
      · rintro m vi vj w15 ⟨j, x', mid, rfl, rfl, hj, rfl, hmid, ho, hx', ea, ec⟩
        refine ⟨fun hlt => ?_, fun hge => ?_⟩
        · have hjl : j < ks.length := by omega
          have ej : ((j : Nat) : Int).toNat = j := by omega
          have ei : (((((ks.take j).filter fun k => !p k).length : Nat) : Int)).toNat = ((ks.take j).filter fun k => !p k).length := by omega
          have hdrop : ks.drop j = ks[j] :: ks.drop (j + 1) := List.drop_eq_getElem_cons hjl
          rw [hdrop] at hx'
          generalize hK : ((ks.take j).filter fun k => !p k) = K at *
          have hlen : (K ++ mid ++ ks[j] :: ks.drop (j + 1)).length = ks.length := by simp; omega
          have hget : (K ++ mid ++ ks[j] :: ks.drop (j + 1))[j]'(by omega) = ks[j] := by
            have h0 : (K ++ mid ++ ks[j] :: ks.drop (j + 1))[j]? = some ks[j] := by
              rw [List.getElem?_append_right (by simp; omega)]
              have : j - (K ++ mid).length = 0 := by simp; omega
              rw [this]; rfl
            exact Option.some.inj ((List.getElem?_eq_getElem _).symm.trans h0)
          obtain ⟨g, eg, hc⟩ := int_at ho (fun p hp => List.mem_append_left _ hp) hx' (j := j) (by omega)
          rw [hget] at hc
          rw [ea] at eg
          refine ⟨g, 0, eg, by omega, by omega, _, hc, ?_⟩
          refine hdel w15 (vecL 3 x') ks[j] _ ho (List.getElem_mem hjl) fun w26 h26 => ⟨_, rfl, fun ht r28 e28 => ?_, fun hf => ?_⟩
          · rw [wrap_id (by omega) (by omega)] at e28
            refine ⟨_, by omega, j + 1, x', mid ++ [ks[j]], rfl, by omega, by omega, by rw [kept_yes hjl ht, hK], by rw [kept_yes hjl ht, hK]; simp; omega, h26, ?_, ea, ec⟩
            rw [kept_yes hjl ht, hK]
            have e1 : K ++ (mid ++ [ks[j]]) ++ ks.drop (j + 1) = K ++ mid ++ ks[j] :: ks.drop (j + 1) := by simp
            rw [e1]; exact hx'
          · refine ⟨by omega, by omega, ?_⟩
            obtain ⟨g2, eg2, c1, c2, x2, ea2, ec2, ho2, hx2⟩ := vecE_set (f := intC) intC_len h26 hx' (i := K.length) (by omega) (k := 0) (by omega) (v := .int .i64 ks[j]) (a := ks[j]) rfl
            rw [ea, eg] at eg2
            have eg2 : g = g2 := by simpa using eg2
            subst eg2
            rw [Nat.mul_one, Nat.add_zero] at c1 c2 ho2
            obtain ⟨mid', hm', hset⟩ := kept_set K mid ks[j] (ks.drop (j + 1))
            rw [hset] at hx2
            rw [ei, Nat.zero_add]
            refine ⟨c1, c2, fun w32 e32 r33 e33 r34 e34 => ?_⟩
            rw [wrap_id (by omega) (by omega)] at e33 e34
            have h32 : Own w0 Im w32 (vecL 3 x2 ++ L) := by rw [e32]; exact ho2
            refine ⟨_, by omega, j + 1, x2, mid', rfl, by omega, by omega, by rw [kept_no hjl hf, hK]; simp; omega, by rw [kept_no hjl hf, hK]; simp; omega, h32, ?_, ea2.trans ea, ec2.trans ec⟩
            rw [kept_no hjl hf, hK]; exact hx2
        · have e : j = ks.length := by omega
          subst e
          exact ⟨ks.length, x', mid, by omega, rfl, hj, rfl, hmid, ho, hx', ea, ec⟩


end
end Go.Proofs.Ytmffnjdndhkbhaa
