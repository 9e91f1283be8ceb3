/- A part of the proof: lemmas. -/
import Derived.Test.YtimokldcmpbjcaaDoorVcNamecD
import Derived.Test.YtimokldcmpbjcaaDoorVcElem
namespace Go.Proofs.YtimokldcmpbjcaaDoor
open Go Go.Vc
set_option maxRecDepth 100000
set_option linter.unusedVariables false

/-- A name: of which directory, which. -/
abbrev Name := Int × ByteArray
def nameC (a : Name) : List Value := [.int .i64 a.1, .string a.2]
theorem nameC_len (a : Name) : (nameC a).length = 2 := rfl
theorem nameC_one (a : Name) : ∀ u ∈ nameC a, u.oneCell' = true := by intro u hu; simp [nameC] at hu; rcases hu with rfl | rfl <;> rfl
section
variable {w0 w : World} {Im : Mem} {Fr L : List (Nat × Obj)} {R : Ending → World → Prop}

/-- slices.Clone -/
theorem s41 {x : VecB} {ks : List Name} (h : Own w0 Im w (vecL 42 x ++ L)) (hx : VecE nameC 2 x ks) (hb : ks.length * 24 ≤ 140737488355328)
    (hR : ∀ w' x', Own w0 Im w' (vecL 42 x' ++ (vecL 42 x ++ L)) → VecE nameC 2 x' ks → R (.returned (.slice (vecA x') ks.length (vecC x'))) w') :
    Calls Tryd.prog 41 #[.slice (vecA x) ks.length (vecC x)] w R := by
  apply vc41
  unfold Vc41
  refine ⟨fun e => ?_, fun he b2 w3 e2 e3 => ?_⟩
  · have hn : ks = [] := hx.none_nil e
    subst hn
    exact hR w none h VecE.nil
  · have h3 := h.alloc' e2 e3
    obtain ⟨x', w', hr, ho, hx'⟩ := vecE_append (n := 2) (P := Tryd.prog) (t := 51) (ty := 51) (e := 42) (bytes := 24) (z := Value.agg #[.int .i64 0, .string ByteArray.empty]) (L := vecL 42 x ++ L) (x := some (b2, 0, [])) (xs := ([] : List Name)) (a := vecA x) (c := vecC x) (ys := ks) Tryd.underlying51 Tryd.type42 rfl rfl rfl rfl nameC_len nameC_one h3 ⟨rfl, Nat.le_refl _, Nat.zero_le _, rfl, rfl⟩
      (fun hne => by
        obtain ⟨g, ea, hc⟩ := vecE_all (e := 42) nameC_len h3 (fun p hp => List.mem_cons_of_mem _ (List.mem_append_left _ hp)) hx (List.length_pos_iff.2 hne) 0
        exact ⟨_, ea, by simpa using hc⟩) (by simp only [List.length_nil]; omega) (by simp only [List.length_nil, maxLen]; omega)
    simp only [List.length_nil, Nat.zero_add, List.nil_append] at hr hx'
    exact ⟨_, _, _, w', hr, hR w' x' ho hx'⟩


/-- slices.IndexFunc -/
theorem s49 {x : VecB} {ks : List Name} (hx : VecE nameC 2 x ks) (hb : ks.length * 24 ≤ 140737488355328) (p : Name → Bool) {fv : Value} (J : World → Prop)
    (hJ : ∀ w', J w' → Own w0 Im w' (vecL 42 x ++ L)) (hJ0 : J w)
    (hdel : ∀ w' k R, J w' → k ∈ ks → (∀ w'', J w'' → R (.returned (.bool (p k))) w'') → Invoke Tryd.prog fv #[.agg (nameC k).toArray] w' R)
    (hno : ∀ w', J w' → (∀ k ∈ ks, p k = false) → R (.returned (.int .i64 (-1))) w')
    (hyes : ∀ w' i (hi : i < ks.length), J w' → p ks[i] = true → (∀ j (hj : j < i), p (ks[j]'(by omega)) = false) → R (.returned (.int .i64 i)) w') :
    Calls Tryd.prog 49 #[.slice (vecA x) ks.length (vecC x), fv] w R := by
  apply vc49
  unfold Vc49
  refine ⟨fun m i w' => J w' ∧ ∃ k : Nat, i = k ∧ k ≤ ks.length ∧ m = ks.length - k ∧ ∀ j (hj : j < ks.length), j < k → p ks[j] = false, ⟨ks.length, hJ0, 0, rfl, by omega, rfl, fun j hj h0 => by omega⟩, ?_⟩
  rintro m i w' ⟨hj, k, rfl, hk, rfl, hall⟩
  refine ⟨fun hlt => ?_, fun hge => ?_⟩
  · have hkl : k < ks.length := by omega
    have ek : ((k : Nat) : Int).toNat = k := by omega
    obtain ⟨g, ea, hc⟩ := vecE_at (e := 42) nameC_len (hJ w' hj) (fun p hp => List.mem_append_left _ hp) hx hkl
    refine ⟨g, 0, ea, by omega, by omega, _, _, by rw [ek, Nat.zero_add]; exact hc, hdel w' _ _ hj (List.getElem_mem hkl) fun w'' hj'' => ⟨_, rfl, fun ht => ?_, fun hf r12 e12 => ?_⟩⟩
    · exact hyes w'' k hkl hj'' ht (fun j hj2 => hall j (by omega) hj2)
    · rw [wrap_id (by omega) (by omega)] at e12
      refine ⟨ks.length - (k + 1), by omega, hj'', k + 1, by omega, by omega, rfl, fun j hj2 h2 => ?_⟩
      by_cases e : j = k
      · subst e; exact hf
      · exact hall j hj2 (by omega)
  · have e : k = ks.length := by omega
    refine hno w' hj fun a ha => ?_
    obtain ⟨j, hj2, rfl⟩ := List.mem_iff_getElem.1 ha
    exact hall j hj2 (by omega)


/-- slices.DeleteFunc -/
theorem s38 {x : VecB} {ks : List Name} (h : Own w0 Im w (vecL 42 x ++ L)) (hx : VecE nameC 2 x ks) (hb : ks.length * 24 ≤ 140737488355328) (p : Name → Bool) {fv : Value}
    (hdel : ∀ w' Fr k R, Own w0 Im w' (Fr ++ L) → k ∈ ks → (∀ w'', Own w0 Im w'' (Fr ++ L) → R (.returned (.bool (p k))) w'') → Invoke Tryd.prog fv #[.agg (nameC k).toArray] w' R)
    (hR : ∀ w' x', Own w0 Im w' (vecL 42 x' ++ L) → VecE nameC 2 x' (ks.filter fun k => !p k) → R (.returned (.slice (vecA x') (ks.filter (fun k => !p k)).length (vecC x'))) w') :
    Calls Tryd.prog 38 #[.slice (vecA x) ks.length (vecC x), fv] w R := by
  apply vc38
  unfold Vc38
  refine s49 (L := L) hx hb p (fun w' => Own w0 Im w' (vecL 42 x ++ L)) (fun _ h => h) h (fun w' k R hj hk hr => hdel w' (vecL 42 x) k R hj hk hr) (fun w' ho hall => ⟨_, rfl, fun _ => ?_, fun e => absurd rfl e⟩) (fun w' i hi ho hpi hbef => ⟨_, rfl, fun e => (by omega), fun _ => ?_⟩)
  · have e : ks.filter (fun k => !p k) = ks := List.filter_eq_self.2 fun k hk => by simp [hall k hk]
    have := hR w' x ho (by rw [e]; exact hx)
    rw [e] at this; exact this
  · have hcap := hx.cap
    let Inv : Nat → Int → Int → World → Prop := fun m vi vj w' => ∃ (j : Nat) (x' : VecB) (mid : List Name), m = ks.length - j ∧ vj = j ∧ j ≤ ks.length ∧ vi = ((ks.take j).filter fun k => !p k).length ∧ ((ks.take j).filter fun k => !p k).length + mid.length = j ∧
      Own w0 Im w' (vecL 42 x' ++ L) ∧ VecE nameC 2 x' (((ks.take j).filter fun k => !p k) ++ mid ++ ks.drop j) ∧ vecA x' = vecA x ∧ vecC x' = vecC x
    refine ⟨fun vi w' => Inv 0 vi ks.length w', ?_, fun r11 e11 => ?_⟩
    · rintro vi w' ⟨j, x', mid, _, ej, hj, rfl, hmid, ho, hx', ea, ec⟩
      have ej' : j = ks.length := by omega
      subst ej'
      rw [List.take_length] at hmid hx' ⊢
      rw [List.drop_length, List.append_nil] at hx'
      have hl : ((ks.filter fun k => !p k) ++ mid).length = ks.length := by rw [List.length_append]; omega
      have et : (((ks.filter fun k => !p k).length : Nat) : Int).toNat = (ks.filter fun k => !p k).length := by omega
      refine ⟨by omega, by omega, fun a8 e8 => ?_⟩
      obtain ⟨x2, w9, hr, ea2, ec2, ho2, hx2⟩ := vecE_clear (n := 2) (P := Tryd.prog) (t := 51) (ty := 0) (e := 42) (z := Value.agg #[.int .i64 0, .string ByteArray.empty]) Tryd.underlying51 Tryd.type42 rfl rfl (by intro u hu; simp [Value.cells] at hu; rcases hu with rfl | rfl <;> rfl) (by omega) nameC_len ho hx' (ks.filter fun k => !p k).length (by rw [hl]; omega)
      rw [hl, ea, ec] at hr
      rw [e8, et]
      refine ⟨w9, hr, by omega, by omega, fun a10 e10 => ?_⟩
      rw [List.take_left] at hx2
      have := hR w9 x2 ho2 hx2
      rw [ea2, ec2, ea, ec] at this
      rw [e10]; exact this
    · rw [wrap_id (by omega) (by omega)] at e11
      refine ⟨Inv, ⟨ks.length - (i + 1), i + 1, x, [ks[i]], rfl, by omega, by omega, ?_, ?_, ho, ?_, rfl, rfl⟩, ?_⟩
      · rw [kept_first hi hpi hbef, List.length_take]; omega
      · rw [kept_first hi hpi hbef]; simp; omega
      · rw [kept_first hi hpi hbef]
        have e1 : ks.take i ++ [ks[i]] ++ ks.drop (i + 1) = ks := by simp
        rw [e1]; exact hx
      · rintro m vi vj w15 ⟨j, x', mid, rfl, rfl, hj, rfl, hmid, ho, hx', ea, ec⟩
        refine ⟨fun hlt => ?_, fun hge => ?_⟩
        · have hjl : j < ks.length := by omega
          have ej : ((j : Nat) : Int).toNat = j := by omega
          have ei : (((((ks.take j).filter fun k => !p k).length : Nat) : Int)).toNat = ((ks.take j).filter fun k => !p k).length := by omega
          have hdrop : ks.drop j = ks[j] :: ks.drop (j + 1) := List.drop_eq_getElem_cons hjl
          rw [hdrop] at hx'
          generalize hK : ((ks.take j).filter fun k => !p k) = K at *
          have hlen : (K ++ mid ++ ks[j] :: ks.drop (j + 1)).length = ks.length := by simp; omega
          have hget : (K ++ mid ++ ks[j] :: ks.drop (j + 1))[j]'(by omega) = ks[j] := by
            have h0 : (K ++ mid ++ ks[j] :: ks.drop (j + 1))[j]? = some ks[j] := by
              rw [List.getElem?_append_right (by simp; omega)]
              have : j - (K ++ mid).length = 0 := by simp; omega
              rw [this]; rfl
            exact Option.some.inj ((List.getElem?_eq_getElem _).symm.trans h0)
          obtain ⟨g, eg, hc⟩ := vecE_at (e := 42) nameC_len ho (fun p hp => List.mem_append_left _ hp) hx' (i := j) (by omega)
          rw [hget] at hc
          rw [ea] at eg
          refine ⟨g, 0, eg, by omega, by omega, _, _, by rw [ej, Nat.zero_add]; exact hc, fun b20 w21 e20 e21 => ?_⟩
          have h21 := ho.alloc' e20 e21
          refine ⟨h21.putOk 0 rfl (by simp), fun w22 e22 => ?_⟩
          have h22 : Own w0 Im w22 ((b20, .cells (nameC ks[j]).toArray 42 (0, 0)) :: (vecL 42 x' ++ L)) := by rw [e22]; exact h21.put (nameC ks[j]) 0 0 rfl 0
          refine ⟨_, _, h22.cellsAt 0 rfl (fun j v hj => by rw [Nat.zero_add, List.getElem?_toArray]; exact hj), ?_⟩
          refine hdel w22 ((b20, .cells (nameC ks[j]).toArray 42 (0, 0)) :: vecL 42 x') ks[j] _ h22 (List.getElem_mem hjl) fun w26 h26 => ⟨_, rfl, fun ht r28 e28 => ?_, fun hf => ?_⟩
          · rw [wrap_id (by omega) (by omega)] at e28
            refine ⟨_, by omega, j + 1, x', mid ++ [ks[j]], rfl, by omega, by omega, by rw [kept_yes hjl ht, hK], by rw [kept_yes hjl ht, hK]; simp; omega, h26.tail rfl, ?_, ea, ec⟩
            rw [kept_yes hjl ht, hK]
            have e1 : K ++ (mid ++ [ks[j]]) ++ ks.drop (j + 1) = K ++ mid ++ ks[j] :: ks.drop (j + 1) := by simp
            rw [e1]; exact hx'
          · have h26' : Own w0 Im w26 ((b20, .cells (nameC ks[j]).toArray 42 (0, 0)) :: (vecL 42 x' ++ L)) := h26
            refine ⟨_, _, h26'.cellsAt 0 rfl (fun j v hj => by rw [Nat.zero_add, List.getElem?_toArray]; exact hj), by omega, by omega, ?_⟩
            obtain ⟨g2, eg2, hok, x2, ea2, ec2, ho2, hx2⟩ := vecE_put (f := nameC) nameC_len (h26'.tail rfl) hx' (i := K.length) (by omega) ks[j]
            rw [ea, eg] at eg2
            have eg2 : g = g2 := by simpa using eg2
            subst eg2
            obtain ⟨mid', hm', hset⟩ := kept_set K mid ks[j] (ks.drop (j + 1))
            rw [hset] at hx2
            rw [ei, Nat.zero_add]
            refine ⟨hok, fun w32 e32 r33 e33 r34 e34 => ?_⟩
            rw [wrap_id (by omega) (by omega)] at e33 e34
            have h32 : Own w0 Im w32 (vecL 42 x2 ++ L) := by rw [e32]; exact ho2
            refine ⟨_, by omega, j + 1, x2, mid', rfl, by omega, by omega, by rw [kept_no hjl hf, hK]; simp; omega, by rw [kept_no hjl hf, hK]; simp; omega, h32, ?_, ea2.trans ea, ec2.trans ec⟩
            rw [kept_no hjl hf, hK]; exact hx2
        · have e : j = ks.length := by omega
          subst e
          exact ⟨ks.length, x', mid, by omega, rfl, hj, rfl, hmid, ho, hx', ea, ec⟩

end
end Go.Proofs.YtimokldcmpbjcaaDoor
