/- A part of the proof: lemmas. -/
import Derived.Test.YtgkcckghmlccnaaVcBufB
namespace Go.Proofs.Ytgkcckghmlccnaa
open Go Go.Vc
set_option maxRecDepth 100000
set_option linter.unusedVariables false

/-- Ints held for good. -/
def IntsIn (Im : Mem) (a : Option Addr) (l : Nat) (ns : List Int) : Prop :=
  l = ns.length ∧ (ns = [] ∨ ∃ b o cs T z, a = some ⟨b, o, none⟩ ∧ Im b = some (.cells cs T z) ∧ ∀ j v, ns[j]? = some v → cs[o + j]? = some (.int .i64 v))
theorem IntsIn.mono {Im Im' : Mem} (h : Im.le Im') {a : Option Addr} {l : Nat} {bs : List Int} (hb : IntsIn Im a l bs) : IntsIn Im' a l bs := by
  obtain ⟨h1, h2 | ⟨b, o, cs, T, z, h2, h3, h4⟩⟩ := hb
  · exact ⟨h1, .inl h2⟩
  · exact ⟨h1, .inr ⟨b, o, cs, T, z, h2, h _ _ h3, h4⟩⟩
theorem IntsIn.cell {w0 w : World} {Im : Mem} {L : List (Nat × Obj)} (h : Own w0 Im w L) {a : Option Addr} {l : Nat} {ns : List Int} (hb : IntsIn Im a l ns) {k : Nat} {v : Int} (hk : ns[k]? = some v) : ∃ b o, a = some ⟨b, o, none⟩ ∧ w.cell? ⟨b, o + k, none⟩ = some (.int .i64 v) := by
  obtain ⟨h1, h2 | ⟨b, o, cs, T, z, h2, h3, h4⟩⟩ := hb
  · subst h2; simp at hk
  · exact ⟨b, o, h2, by rw [cell_of (h.im b _ h3)]; exact h4 k v hk⟩

section
variable {w0 w : World} {Im : Mem} {Fr L : List (Nat × Obj)} {R : Ending → World → Prop}

/-- slices.Clone of a vector of ints. -/
theorem s29 {x : VecB} {ns : List Int} (h : Own w0 Im w (vecL 3 x ++ L)) (hx : VecOk 1 x ns.length (i64s ns)) (hb : ns.length * 8 ≤ 140737488355328)
    (hR : ∀ Im' w' a' c', Im.le Im' → Own w0 Im' w' (vecL 3 x ++ L) → IntsIn Im' a' ns.length ns → R (.returned (.slice a' ns.length c')) w') : Calls Try.prog 29 #[.slice (vecA x) ns.length (vecC x)] w R := by
  apply vc29
  unfold Vc29
  refine ⟨fun e => ?_, fun he b2 w3 e2 e3 => ?_⟩
  · have h0 := hx.none_iff e
    have hn : ns = [] := List.eq_nil_of_length_eq_zero h0
    have := hR Im w none 0 (Mem.le_refl _) h ⟨rfl, .inl hn⟩
    rw [h0] at this; exact this
  · cases x with
    | none => exact absurd rfl he
    | some y =>
      obtain ⟨g, cap, cur⟩ := y
      have h3 := h.alloc' e2 e3
      have hg3 := h3.get 1 (b := g) (o := .cells cur.toArray 3 (0, 0)) rfl
      by_cases hn : ns.length = 0
      · have hr := run_append_0 (P := Try.prog) (w := w3) (t := 43) (ty := 43) (e := 3) (a := some ⟨b2, 0, none⟩) (b := some ⟨g, 0, none⟩) (n := 0) (c := 0) (c2 := cap) Try.underlying43 Try.type3 (by omega)
        rw [hn]
        refine ⟨_, _, _, w3, hr, ?_⟩
        have hnn : ns = [] := List.eq_nil_of_length_eq_zero hn
        have := hR Im w3 (some ⟨b2, 0, none⟩) 0 (Mem.le_refl _) (h3.tail rfl) ⟨rfl, .inl hnn⟩
        rw [hn] at this; exact this
      · have hsrc : CellsAt w3 ⟨g, 0, none⟩ (i64s ns) := fun j v hj => by rw [add_z]; exact vec_cell hx hg3 hj
        obtain ⟨x', w', hr, ho, hx'⟩ := own_append (x := some (b2, 0, [])) (n := 0) (xs := []) (e := 3) (t := 43) (ty := 43) (L := vecL 3 (some (g, cap, cur)) ++ L) (a := ⟨g, 0, none⟩) (m := ns.length) (c := cap) (news := i64s ns) (bytes := 8) (size := 1) (z := .int .i64 0) Try.underlying43 Try.type3 rfl rfl rfl rfl
          h3 ⟨by simp, by simp [vecC], by simp [vecC], by simp, by simp⟩ (by simp) hsrc i64s_one (by omega) (by omega) (by simp only [maxLen]; omega)
        simp only [Nat.zero_add, List.nil_append] at hr hx'
        refine ⟨_, _, _, w', hr, ?_⟩
        cases x' with
        | none => have : _ ≤ 0 := hx'.2.1; omega
        | some y' =>
          obtain ⟨g', cap', cur'⟩ := y'
          have ho2 : Own w0 Im w' ((g', .cells cur'.toArray 3 (0, 0)) :: (vecL 3 (some (g, cap, cur)) ++ L)) := ho
          obtain ⟨hh, hle⟩ := ho2.hold
          refine hR _ _ _ _ hle hh ⟨rfl, .inr ⟨g', 0, cur'.toArray, 3, (0, 0), rfl, by simp [Mem.add], fun j v hj => ?_⟩⟩
          obtain ⟨h1, h2, h3, h4, h5⟩ := hx'
          have hj' : (i64s ns)[j]? = some (.int .i64 v) := by simp [i64s, hj]
          rw [← h5, List.getElem?_take] at hj'
          split at hj'
          · simpa using hj'
          · cases hj'

/-- slices.IndexFunc -/
theorem s34 {x : VecB} {ks : List Int} (h : Own w0 Im w (vecL 3 x ++ L)) (hx : VecOk 1 x ks.length (i64s ks)) (hb : ks.length * 8 ≤ 140737488355328) (p : Int → Bool) {fv : Value} (J : World → Prop)
    (hJ : ∀ w', J w' → Own w0 Im w' (vecL 3 x ++ L)) (hJ0 : J w)
    (hdel : ∀ w' k R, J w' → k ∈ ks → R (.returned (.bool (p k))) w' → Invoke Try.prog fv #[.int .i64 k] w' R)
    (hno : ∀ w', J w' → (∀ k ∈ ks, p k = false) → R (.returned (.int .i64 (-1))) w')
    (hyes : ∀ w' i (hi : i < ks.length), J w' → p ks[i] = true → (∀ j (hj : j < i), p (ks[j]'(by omega)) = false) → R (.returned (.int .i64 i)) w') :
    Calls Try.prog 34 #[.slice (vecA x) ks.length (vecC x), fv] w R := by
  apply vc34
  unfold Vc34
  refine ⟨fun m i w' => J w' ∧ ∃ k : Nat, i = k ∧ k ≤ ks.length ∧ m = ks.length - k ∧ ∀ j (hj : j < ks.length), j < k → p ks[j] = false, ⟨ks.length, hJ0, 0, rfl, by omega, rfl, fun j hj h0 => by omega⟩, ?_⟩
  rintro m i w' ⟨hj, k, rfl, hk, rfl, hall⟩
  refine ⟨fun hlt => ?_, fun hge => ?_⟩
  · have hkl : k < ks.length := by omega
    cases x with
    | none => have : _ ≤ 0 := hx.2.1; omega
    | some y =>
      obtain ⟨g, cap, cur⟩ := y
      have hg := (hJ w' hj).get 0 (b := g) (o := .cells cur.toArray 3 (0, 0)) rfl
      have hc := vec_cell hx hg (j := k) (u := .int .i64 ks[k]) (by simp [i64s, hkl])
      refine ⟨g, 0, rfl, by omega, by omega, ks[k], by rw [Nat.zero_add]; exact hc, hdel w' _ _ hj (List.getElem_mem hkl) ⟨_, rfl, fun ht => ?_, fun hf r12 e12 => ?_⟩⟩
      · exact hyes w' k hkl hj ht (fun j hj2 => hall j (by omega) hj2)
      · rw [wrap_id (by omega) (by omega)] at e12
        refine ⟨ks.length - (k + 1), by omega, hj, k + 1, by omega, by omega, rfl, fun j hj2 h2 => ?_⟩
        by_cases e : j = k
        · subst e; exact hf
        · exact hall j hj2 (by omega)
  · have e : k = ks.length := by omega
    refine hno w' hj fun a ha => ?_
    obtain ⟨j, hj2, rfl⟩ := List.mem_iff_getElem.1 ha
    exact hall j hj2 (by omega)

theorem zeros_int (n : Nat) : (Builtin.zeroCells (Value.int .i64 0).cells n).toList = List.replicate n (.int .i64 0) := by
  apply List.ext_getElem
  · simp [Builtin.zeroCells, Value.cells]
  · intro i h1 h2
    simp [Builtin.zeroCells, Value.cells, Nat.mod_one]

/-- slices.DeleteFunc -/
theorem s37 {x : VecB} {ks : List Int} (h : Own w0 Im w (vecL 3 x ++ L)) (hx : VecOk 1 x ks.length (i64s ks)) (hb : ks.length * 8 ≤ 140737488355328) (p : Int → Bool) {fv : Value}
    (hdel : ∀ w' x' k R, Own w0 Im w' (vecL 3 x' ++ L) → k ∈ ks → R (.returned (.bool (p k))) w' → Invoke Try.prog fv #[.int .i64 k] w' R)
    (hR : ∀ w' x', Own w0 Im w' (vecL 3 x' ++ L) → VecOk 1 x' (ks.filter (fun k => !p k)).length (i64s (ks.filter fun k => !p k)) → R (.returned (.slice (vecA x') (ks.filter (fun k => !p k)).length (vecC x'))) w') :
    Calls Try.prog 37 #[.slice (vecA x) ks.length (vecC x), fv] w R := by
  apply vc37
  unfold Vc37
  refine s34 h hx hb p (fun w' => Own w0 Im w' (vecL 3 x ++ L)) (fun _ h => h) h (fun w' k R hj hk hr => hdel w' x k R hj hk hr) (fun w' ho hall => ⟨_, rfl, fun _ => ?_, fun e => absurd rfl e⟩) (fun w' i hi ho hpi hbef => ⟨_, rfl, fun e => (by omega), fun _ => ?_⟩)
  · have e : ks.filter (fun k => !p k) = ks := List.filter_eq_self.2 fun k hk => by simp [hall k hk]
    have := hR w' x ho (by rw [e]; exact hx)
    rw [e] at this; exact this
  · cases x with
    | none => have : _ ≤ 0 := hx.2.1; omega
    | some y =>
      obtain ⟨g, cap, cur⟩ := y
      obtain ⟨hx1, hx2, hx3, hx4, hx5⟩ := hx
      simp only [Nat.mul_one] at hx4 hx5
      have hcap : ks.length ≤ cap := hx2
      -- what holds: the kept ones, what lies between, the rest
      let Inv : Int → Int → World → Prop := fun vi vj w' => ∃ j : Nat, vj = j ∧ j ≤ ks.length ∧ vi = ((ks.take j).filter fun k => !p k).length ∧ ∃ mid : List Value, ((ks.take j).filter fun k => !p k).length + mid.length = j ∧
        Own w0 Im w' (vecL 3 (some (g, cap, i64s ((ks.take j).filter fun k => !p k) ++ mid ++ i64s (ks.drop j) ++ cur.drop ks.length)) ++ L)
      have hfirst : ((ks.take (i + 1)).filter fun k => !p k) = ks.take i := by
        rw [List.take_succ_eq_append_getElem hi, List.filter_append]
        have e1 : (ks.take i).filter (fun k => !p k) = ks.take i := List.filter_eq_self.2 fun k hk => by
          obtain ⟨j, hj, rfl⟩ := List.mem_iff_getElem.1 hk
          have hj' : j < i := by simp at hj; omega
          simp [hbef j hj']
        have e2 : [ks[i]].filter (fun k => !p k) = [] := by simp [hpi]
        rw [e1, e2, List.append_nil]
      refine ⟨fun vi w' => Inv vi ks.length w', ?_, fun r11 e11 => ?_⟩
      · rintro vi w' ⟨j, ej, hj, ei, mid, hmid, ho⟩
        have ej' : j = ks.length := by omega
        subst ej'
        rw [List.take_length] at ei hmid ho
        rw [List.drop_length] at ho
        have hfl : (ks.filter fun k => !p k).length ≤ ks.length := List.length_filter_le _ _
        have hlen : (i64s (ks.filter fun k => !p k) ++ mid ++ i64s [] ++ cur.drop ks.length).length = cap := by
          simp only [List.length_append, i64s_length, List.length_drop, List.length_nil]; omega
        refine ⟨by omega, by omega, fun a8 e8 => ?_⟩
        have htn : vi.toNat = (ks.filter fun k => !p k).length := by omega
        have hfin : ∀ w'' cur', Own w0 Im w'' (vecL 3 (some (g, cap, cur')) ++ L) → cur'.length = cap → cur'.take (ks.filter fun k => !p k).length = i64s (ks.filter fun k => !p k) →
            0 ≤ vi ∧ vi ≤ (cap : Int) ∧ ∀ a10 : Option Addr, a10 = some ⟨g, 0, none⟩ → R (.returned (.slice a10 vi.toNat cap)) w'' := by
          intro w'' cur' ho' hl' ht'
          refine ⟨by omega, by omega, fun a10 e10 => ?_⟩
          rw [e10, htn]
          exact hR w'' (some (g, cap, cur')) ho' ⟨by simp, by show _ ≤ cap; omega, hx3, by rw [Nat.mul_one]; exact hl', by rw [Nat.mul_one]; exact ht'⟩
        by_cases hz : ks.length - vi.toNat = 0
        · refine ⟨w', by rw [hz]; exact run_clear_0 Try.underlying43, ?_⟩
          exact hfin w' _ ho hlen (by simp only [List.append_assoc]; rw [← i64s_length (bs := ks.filter fun k => !p k)]; exact List.take_left)
        · have ea : a8 = some ⟨g, vi.toNat, none⟩ := by
            rw [e8]; unfold subA
            show (if cap = vi.toNat then _ else _) = _
            rw [if_neg (by omega)]
            simp [vecA, add_z]
          have hg := ho.get 0 (b := g) (o := .cells (i64s (ks.filter fun k => !p k) ++ mid ++ i64s [] ++ cur.drop ks.length).toArray 3 (0, 0)) rfl
          have hcl := run_clear_row (P := Try.prog) (t := 43) (ty := 0) (e := 3) (size := 1) (z := .int .i64 0) Try.underlying43 Try.type3 rfl rfl (by intro u hu; simp [Value.cells] at hu; subst hu; rfl) (w := w') (g := g) (o := vi.toNat) (n := ks.length - vi.toNat) (c := cap - vi.toNat) hg (by omega) (by rw [hlen]; omega)
          rw [ea]
          refine ⟨_, hcl, ?_⟩
          have ho2 := ho.setRow 0 (b := g) (cs := (i64s (ks.filter fun k => !p k) ++ mid ++ i64s [] ++ cur.drop ks.length).toArray) (T := 3) (z := (0, 0)) (cs' := ((i64s (ks.filter fun k => !p k) ++ mid ++ i64s [] ++ cur.drop ks.length).take vi.toNat ++ (Builtin.zeroCells (Value.int .i64 0).cells (ks.length - vi.toNat)).toList ++ (i64s (ks.filter fun k => !p k) ++ mid ++ i64s [] ++ cur.drop ks.length).drop (vi.toNat + (ks.length - vi.toNat) * 1)).toArray) rfl
          refine hfin _ _ ho2 ?_ ?_
          · simp only [List.length_append, List.length_take, List.length_drop, zeros_int, List.length_replicate, i64s_length, List.length_nil]; omega
          · rw [List.append_assoc, List.take_append_of_le_length (by simp only [List.length_take, List.length_append, i64s_length, List.length_drop, List.length_nil]; omega), List.take_take, Nat.min_eq_left (by omega)]
            simp only [List.append_assoc]; rw [← i64s_length (bs := ks.filter fun k => !p k)]; exact List.take_left
      · rw [wrap_id (by omega) (by omega)] at e11
        refine ⟨fun m vi vj w' => Inv vi vj w' ∧ (m : Int) = ks.length - vj, ⟨ks.length - (i + 1), ⟨i + 1, by omega, by omega, ?_, [.int .i64 ks[i]], ?_, ?_⟩, by omega⟩, ?_⟩
        · rw [hfirst]; simp; omega
        · rw [hfirst]; simp; omega
        · rw [hfirst]
          have e : i64s (ks.take i) ++ [.int .i64 ks[i]] ++ i64s (ks.drop (i + 1)) ++ cur.drop ks.length = cur := by
            have e1 : i64s (ks.take i) ++ [.int .i64 ks[i]] ++ i64s (ks.drop (i + 1)) = i64s ks := by
              have : ks = ks.take i ++ [ks[i]] ++ ks.drop (i + 1) := by simp
              conv => rhs; rw [this]
              simp only [i64s, List.map_append, List.map_cons, List.map_nil]
            rw [e1, ← hx5, List.take_append_drop]
          rw [e]; exact ho
        · rintro m vi vj w5 ⟨⟨j, rfl, hj, rfl, mid, hmid, ho5⟩, hm⟩
          refine ⟨fun hlt => ?_, fun hge => ?_⟩
          · have hjl : j < ks.length := by omega
            have hsplit : i64s ((ks.take j).filter fun k => !p k) ++ mid ++ i64s (ks.drop j) ++ cur.drop ks.length = i64s ((ks.take j).filter fun k => !p k) ++ (mid ++ (.int .i64 ks[j] :: (i64s (ks.drop (j + 1)) ++ cur.drop ks.length))) := by
              have e : ks.drop j = ks[j] :: ks.drop (j + 1) := by simp
              rw [e]; simp only [i64s, List.map_cons, List.append_assoc, List.cons_append]
            have hg := ho5.get 0 (b := g) rfl
            have hcj : w5.cell? ⟨g, 0 + (j : Int).toNat, none⟩ = some (.int .i64 ks[j]) := by
              rw [cell_of hg, hsplit, Nat.zero_add, Int.toNat_natCast]
              rw [List.getElem?_toArray, List.getElem?_append_right (by simp; omega), List.getElem?_append_right (by simp; omega)]
              have : j - (i64s ((ks.take j).filter fun k => !p k)).length - mid.length = 0 := by simp; omega
              rw [this]; rfl
            refine ⟨g, 0, rfl, by omega, by omega, ks[j], hcj, hdel w5 _ _ _ ho5 (List.getElem_mem hjl) ⟨_, rfl, fun ht r22 e22 => ?_, fun hf => ?_⟩⟩
            · rw [wrap_id (by omega) (by omega)] at e22
              have ef : ((ks.take (j + 1)).filter fun k => !p k) = ((ks.take j).filter fun k => !p k) := by
                rw [List.take_succ_eq_append_getElem hjl, List.filter_append]; simp [ht]
              refine ⟨ks.length - (j + 1), by omega, ⟨j + 1, by omega, by omega, by rw [ef], mid ++ [.int .i64 ks[j]], by rw [ef]; simp; omega, ?_⟩, by omega⟩
              rw [ef]
              have e : i64s ((ks.take j).filter fun k => !p k) ++ (mid ++ [.int .i64 ks[j]]) ++ i64s (ks.drop (j + 1)) ++ cur.drop ks.length = i64s ((ks.take j).filter fun k => !p k) ++ mid ++ i64s (ks.drop j) ++ cur.drop ks.length := by
                rw [hsplit]; simp
              rw [e]; exact ho5
            · have ef : ((ks.take (j + 1)).filter fun k => !p k) = ((ks.take j).filter fun k => !p k) ++ [ks[j]] := by
                rw [List.take_succ_eq_append_getElem hjl, List.filter_append]; simp [hf]
              obtain ⟨y, mid', hmm⟩ : ∃ (y : Value) (mid' : List Value), mid ++ [Value.int .i64 ks[j]] = y :: mid' := by
                cases mid with
                | nil => exact ⟨_, _, rfl⟩
                | cons a l => exact ⟨a, l ++ [Value.int .i64 ks[j]], rfl⟩
              have hml : mid'.length = mid.length := by
                have := congrArg List.length hmm; simp at this; omega
              have hlt2 : 0 + (((ks.take j).filter fun k => !p k).length : Int).toNat < (i64s ((ks.take j).filter fun k => !p k) ++ mid ++ i64s (ks.drop j) ++ cur.drop ks.length).length := by
                rw [hsplit]; simp; omega
              refine ⟨by omega, by omega, ?_, ho5.frozen 0 rfl _, fun w24 e24 r25 e25 r26 e26 => ?_⟩
              · rw [cell_of hg, List.getElem?_toArray, List.getElem?_eq_getElem hlt2]; rfl
              rw [wrap_id (by omega) (by omega)] at e25 e26
              refine ⟨ks.length - (j + 1), by omega, ⟨j + 1, by omega, by omega, by rw [ef]; simp; omega, mid', by rw [ef]; simp; omega, ?_⟩, by omega⟩
              have h24 := ho5.set 0 (b := g) rfl (0 + (((ks.take j).filter fun k => !p k).length : Int).toNat) (.int .i64 ks[j])
              rw [e24]
              have earr : (i64s ((ks.take j).filter fun k => !p k) ++ mid ++ i64s (ks.drop j) ++ cur.drop ks.length).toArray.setIfInBounds (0 + (((ks.take j).filter fun k => !p k).length : Int).toNat) (.int .i64 ks[j]) =
                  (i64s ((ks.take (j + 1)).filter fun k => !p k) ++ mid' ++ i64s (ks.drop (j + 1)) ++ cur.drop ks.length).toArray := by
                rw [hsplit, ef]
                have e2 : mid ++ (.int .i64 ks[j] :: (i64s (ks.drop (j + 1)) ++ cur.drop ks.length)) = y :: (mid' ++ (i64s (ks.drop (j + 1)) ++ cur.drop ks.length)) := by
                  have : mid ++ (.int .i64 ks[j] :: (i64s (ks.drop (j + 1)) ++ cur.drop ks.length)) = (mid ++ [.int .i64 ks[j]]) ++ (i64s (ks.drop (j + 1)) ++ cur.drop ks.length) := by simp
                  rw [this, hmm]; rfl
                rw [e2, Nat.zero_add, Int.toNat_natCast, List.setIfInBounds_toArray, ← i64s_length (bs := (ks.take j).filter fun k => !p k), List.set_append_right _ _ (Nat.le_refl _), Nat.sub_self]
                simp [i64s]
              rw [earr] at h24
              exact h24
          · have e : j = ks.length := by omega
            subst e
            exact ⟨ks.length, rfl, Nat.le_refl _, rfl, mid, hmid, ho5⟩
end
end Go.Proofs.Ytgkcckghmlccnaa
