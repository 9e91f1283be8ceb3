/- A part of the proof: lemmas. -/
import Derived.Test.YtdhdbdpemejpjaaVcGenC
import Derived.Test.YtdhdbdpemejpjaaVcElem
import Derived.Test.YtdhdbdpemejpjaaVcKeys
import Derived.Test.YtdhdbdpemejpjaaVcRange
namespace Go.Proofs.Ytdhdbdpemejpjaa
open Go Go.Vc
set_option maxRecDepth 100000
set_option linter.unusedVariables false

theorem wrap_id {n : Int} (h1 : -9223372036854775808 ≤ n) (h2 : n ≤ 9223372036854775807) : IntKind.wrap .i64 n = n := by rw [IntKind.wrap_i64]; omega
/-- A key: of which space, which page. -/
abbrev Key := Int × Int
def keyC (a : Key) : List Value := [.int .i64 a.1, .int .i64 a.2]
theorem keyC_len (a : Key) : (keyC a).length = 2 := rfl
theorem keyC_one (a : Key) : ∀ u ∈ keyC a, u.oneCell' = true := by intro u hu; simp [keyC] at hu; rcases hu with rfl | rfl <;> rfl
def keyE (a : Key) : Value := .agg (keyC a).toArray
theorem key_inj (a b : Key) : (plainB (.int .i64 a.1) (.int .i64 b.1) && plainB (.int .i64 a.2) (.int .i64 b.2)) = decide (a = b) := by
  simp only [plainB, Prod.ext_iff]
  by_cases h1 : a.1 = b.1 <;> by_cases h2 : a.2 = b.2 <;> simp [h1, h2]
theorem keyKey : KeyLaw keyE Try.prog 31 :=
  keyLaw2 (K := 31) Try.underlying31 (by kernel_rfl) (by decide) (by decide) rfl rfl (fun _ => rfl) (fun _ => Try.underlying3) (fun _ => Try.underlying3) key_inj
theorem key_guard {op : BinOp} {x y : Operand} (a b : Key) (w : World) : (eqGuard op 31 x y (keyE a) (keyE b)).run Try.prog w = .ok () w := by
  cases op <;> (unfold eqGuard keyE; simp)
theorem key_equal (a b : Key) (w : World) : (Op.equal 31 (keyE a) (keyE b)).run Try.prog w = .ok (decide (a = b)) w := by
  have h : (Op.equal 31 (keyE a) (keyE b)).run Try.prog w = .ok (plainB (.int .i64 a.1) (.int .i64 b.1) && plainB (.int .i64 a.2) (.int .i64 b.2)) w :=
    key_equal2 (K := 31) Try.underlying31 (by kernel_rfl) (by decide) (by decide) rfl rfl Try.underlying3 Try.underlying3 Try.underlying3 Try.underlying3
  rw [key_inj] at h; exact h
theorem key_eq (a b : Key) (w : World) : (binOp .eql 31 (keyE a) (keyE b)).run Try.prog w = .ok (.bool (decide (a = b))) w := by
  have h := key_equal a b w
  unfold binOp
  simp [keyE]
  unfold keyE at h
  rw [h]; rfl
theorem key_ne (a b : Key) (w : World) : (binOp .neq 31 (keyE a) (keyE b)).run Try.prog w = .ok (.bool (!decide (a = b))) w := by
  have h := key_equal a b w
  unfold binOp
  simp [keyE]
  unfold keyE at h
  rw [h]; rfl
/-- What a hart keeps. -/
structure HartG where
  mb : Nat
  M : List (Ent Key)
  clk : Nat
  ov : VecB
  E : List (Key × Int)
def HartG.L (x : HartG) : List (Nat × Obj) := (x.mb, mapObj keyE x.M x.clk) :: vecL 31 x.ov
def hartC (x : HartG) : List Value := [.map (some x.mb), .slice (vecA x.ov) x.E.length (vecC x.ov)]
theorem hartC_len (x : HartG) : (hartC x).length = 2 := rfl
def lookE (E : List (Key × Int)) (k : Key) : Option Int := (E.find? fun e => decide (e.1 = k)).map (·.2)
structure HartOk (x : HartG) : Prop where
  vec : VecE keyC 2 x.ov (x.E.map (·.1))
  mnd : (x.M.map (·.1)).Nodup
  born : Born x.M x.clk
  map : ∀ k, aget x.M k = (lookE x.E k).map (Value.int .u32 ·)
  nd : (x.E.map (·.1)).Nodup
  len : x.E.length ≤ 64
theorem aget_mem {α : Type} [DecidableEq α] {M : List (Ent α)} (hn : (M.map (·.1)).Nodup) {e : Ent α} (he : e ∈ M) : aget M e.1 = some e.2.1 := by
  induction M with
  | nil => cases he
  | cons x t ih =>
    rw [aget_cons]
    simp only [List.map_cons, List.nodup_cons] at hn
    rcases List.mem_cons.1 he with rfl | he
    · simp
    · have hne : ¬ e.1 = x.1 := fun h => hn.1 (h ▸ List.mem_map_of_mem he)
      rw [if_neg hne]
      exact ih hn.2 he
theorem HartOk.vals {x : HartG} (h : HartOk x) : ∀ e ∈ x.M, ∃ n, e.2.1 = .int .u32 n := fun e he => by
  have := aget_mem h.mnd he
  rw [h.map] at this
  cases hl : lookE x.E e.1 with
  | none => rw [hl] at this; cases this
  | some n => rw [hl] at this; exact ⟨n, by simpa using this.symm⟩
/-- What is kept of other spaces. -/
def keepE (E : List (Key × Int)) (sp : Int) : List (Key × Int) := E.filter fun e => !decide (e.1.1 = sp)
theorem lookE_keep {E : List (Key × Int)} {sp : Int} {k : Key} : lookE (keepE E sp) k = if k.1 = sp then none else lookE E k := by
  unfold lookE keepE
  rw [List.find?_filter]
  by_cases e : k.1 = sp
  · rw [if_pos e, Option.map_eq_none_iff, List.find?_eq_none]
    intro x _
    by_cases h : x.1 = k <;> simp [h, e]
  · rw [if_neg e]
    congr 2
    funext x
    by_cases h : x.1 = k
    · simp [h, e]
    · simp [h]
theorem aget_filter {α : Type} [DecidableEq α] {M : List (Ent α)} {p : α → Bool} {k : α} : aget (M.filter fun e => p e.1) k = if p k then aget M k else none := by
  induction M with
  | nil => simp [aget_nil]
  | cons x t ih =>
    rw [List.filter_cons]
    by_cases hp : p x.1
    · rw [if_pos hp, aget_cons, aget_cons, ih]
      by_cases e : k = x.1
      · subst e; simp [hp]
      · simp [e]
    · rw [if_neg hp, ih, aget_cons]
      by_cases e : k = x.1
      · subst e; simp [hp]
      · simp [e]

section
variable {w0 w : World} {Im : Mem} {Fr L : List (Nat × Obj)} {R : Ending → World → Prop}

/-- slices.Delete -/
theorem s21 {x : VecB} {ks : List Key} (h : Own w0 Im w (vecL 31 x ++ L)) (hx : VecE keyC 2 x ks) (hb : ks.length ≤ 4611686018427387904) {i j : Int} (hi0 : 0 ≤ i) (hij : i < j) (hj : j ≤ ks.length)
    (hR : ∀ w' x', Own w0 Im w' (vecL 31 x' ++ L) → VecE keyC 2 x' (ks.take i.toNat ++ ks.drop j.toNat) → R (.returned (.slice (vecA x') (ks.take i.toNat ++ ks.drop j.toNat).length (vecC x'))) w') :
    Calls Try.prog 21 #[.slice (vecA x) ks.length (vecC x), .int .i64 i, .int .i64 j] w R := by
  apply vc21
  unfold Vc21
  have hcap := hx.cap
  refine ⟨by omega, by omega, by omega, by omega, fun a4 _ => ⟨fun e => (by omega), fun _ => ⟨by omega, by omega, fun a5 e5 => ⟨by omega, by omega, fun a6 e6 => ?_⟩⟩⟩⟩
  have hd := h.drew
  have hdl : (ks.drop j.toNat).length = ks.length - j.toNat := by simp
  obtain ⟨x1, w7, hr, ea, ec, ho, hx1⟩ := vecE_move (n := 2) (P := Try.prog) (t := 40) (ty := 40) (e := 31) (k := i.toNat) (c := vecC x - j.toNat) (ys := ks.drop j.toNat) Try.underlying40 Try.type31 rfl keyC_len keyC_one hd hx (by rw [hdl]; omega) (vecE_from (e := 31) keyC_len hd (fun p hp => List.mem_append_left _ hp) hx j.toNat)
  rw [hdl] at hr hx1
  refine ⟨_, _, _, w7, by rw [e5, e6]; exact hr, by omega, by omega, by omega, fun a9 e9 => ?_⟩
  have hl : (ks.take i.toNat ++ ks.drop j.toNat ++ ks.drop (i.toNat + (ks.length - j.toNat))).length = ks.length := by simp; omega
  have htk : (ks.take i.toNat ++ ks.drop j.toNat ++ ks.drop (i.toNat + (ks.length - j.toNat))).take (i.toNat + (ks.length - j.toNat)) = ks.take i.toNat ++ ks.drop j.toNat := by
    rw [List.take_left' (by simp; omega)]
  have htl : (ks.take i.toNat ++ ks.drop j.toNat).length = i.toNat + (ks.length - j.toNat) := by simp; omega
  obtain ⟨x2, w10, hr2, ea2, ec2, ho2, hx2⟩ := vecE_clear (n := 2) (P := Try.prog) (t := 40) (ty := 0) (e := 31) (z := Value.agg #[.int .i64 0, .int .i64 0]) Try.underlying40 Try.type31 rfl rfl (by intro u hu; simp [Value.cells] at hu; rcases hu with rfl | rfl <;> rfl) (by omega) keyC_len ho hx1 (i.toNat + (ks.length - j.toNat)) (by rw [hl]; omega)
  rw [hl, ea, ec] at hr2
  rw [htk] at hx2
  have et : ∀ m : Nat, ((m : Nat) : Int).toNat = m := fun m => Int.toNat_natCast m
  refine ⟨w10, by rw [e9, et, et]; exact hr2, ?_⟩
  have := hR w10 x2 ho2 hx2
  rw [htl, ea2, ec2, ea, ec] at this
  exact this


/-- slices.Clone -/
theorem s24 {x : VecB} {ks : List Key} (h : Own w0 Im w (vecL 31 x ++ L)) (hx : VecE keyC 2 x ks) (hb : ks.length * 16 ≤ 140737488355328)
    (hR : ∀ w' x', Own w0 Im w' (vecL 31 x' ++ (vecL 31 x ++ L)) → VecE keyC 2 x' ks → R (.returned (.slice (vecA x') ks.length (vecC x'))) w') :
    Calls Try.prog 24 #[.slice (vecA x) ks.length (vecC x)] w R := by
  apply vc24
  unfold Vc24
  refine ⟨fun e => ?_, fun he b2 w3 e2 e3 => ?_⟩
  · have hn : ks = [] := hx.none_nil e
    subst hn
    exact hR w none h VecE.nil
  · have h3 := h.alloc' e2 e3
    obtain ⟨x', w', hr, ho, hx'⟩ := vecE_append (n := 2) (P := Try.prog) (t := 40) (ty := 40) (e := 31) (bytes := 16) (z := Value.agg #[.int .i64 0, .int .i64 0]) (L := vecL 31 x ++ L) (x := some (b2, 0, [])) (xs := ([] : List Key)) (a := vecA x) (c := vecC x) (ys := ks) Try.underlying40 Try.type31 rfl rfl rfl rfl keyC_len keyC_one h3 ⟨rfl, Nat.le_refl _, Nat.zero_le _, rfl, rfl⟩
      (fun hne => by
        obtain ⟨g, ea, hc⟩ := vecE_all (e := 31) keyC_len h3 (fun p hp => List.mem_cons_of_mem _ (List.mem_append_left _ hp)) hx (List.length_pos_iff.2 hne) 0
        exact ⟨_, ea, by simpa using hc⟩) (by simp only [List.length_nil]; omega) (by simp only [List.length_nil, maxLen]; omega)
    simp only [List.length_nil, Nat.zero_add, List.nil_append] at hr hx'
    exact ⟨_, _, _, w', hr, hR w' x' ho hx'⟩


/-- slices.IndexFunc -/
theorem s54 {x : VecB} {ks : List Key} (hx : VecE keyC 2 x ks) (hb : ks.length * 16 ≤ 140737488355328) (p : Key → Bool) {fv : Value} (J : World → Prop)
    (hJ : ∀ w', J w' → Own w0 Im w' (vecL 31 x ++ L)) (hJ0 : J w)
    (hdel : ∀ w' k R, J w' → k ∈ ks → (∀ w'', J w'' → R (.returned (.bool (p k))) w'') → Invoke Try.prog fv #[.agg (keyC k).toArray] w' R)
    (hno : ∀ w', J w' → (∀ k ∈ ks, p k = false) → R (.returned (.int .i64 (-1))) w')
    (hyes : ∀ w' i (hi : i < ks.length), J w' → p ks[i] = true → (∀ j (hj : j < i), p (ks[j]'(by omega)) = false) → R (.returned (.int .i64 i)) w') :
    Calls Try.prog 54 #[.slice (vecA x) ks.length (vecC x), fv] w R := by
  apply vc54
  unfold Vc54
  refine ⟨fun m i w' => J w' ∧ ∃ k : Nat, i = k ∧ k ≤ ks.length ∧ m = ks.length - k ∧ ∀ j (hj : j < ks.length), j < k → p ks[j] = false, ⟨ks.length, hJ0, 0, rfl, by omega, rfl, fun j hj h0 => by omega⟩, ?_⟩
  rintro m i w' ⟨hj, k, rfl, hk, rfl, hall⟩
  refine ⟨fun hlt => ?_, fun hge => ?_⟩
  · have hkl : k < ks.length := by omega
    have ek : ((k : Nat) : Int).toNat = k := by omega
    obtain ⟨g, ea, hc⟩ := vecE_at (e := 31) keyC_len (hJ w' hj) (fun p hp => List.mem_append_left _ hp) hx hkl
    refine ⟨g, 0, ea, by omega, by omega, _, _, by rw [ek, Nat.zero_add]; exact hc, hdel w' _ _ hj (List.getElem_mem hkl) fun w'' hj'' => ⟨_, rfl, fun ht => ?_, fun hf r12 e12 => ?_⟩⟩
    · exact hyes w'' k hkl hj'' ht (fun j hj2 => hall j (by omega) hj2)
    · rw [wrap_id (by omega) (by omega)] at e12
      refine ⟨ks.length - (k + 1), by omega, hj'', k + 1, by omega, by omega, rfl, fun j hj2 h2 => ?_⟩
      by_cases e : j = k
      · subst e; exact hf
      · exact hall j hj2 (by omega)
  · have e : k = ks.length := by omega
    refine hno w' hj fun a ha => ?_
    obtain ⟨j, hj2, rfl⟩ := List.mem_iff_getElem.1 ha
    exact hall j hj2 (by omega)


/-- slices.DeleteFunc -/
theorem s37 {x : VecB} {ks : List Key} (h : Own w0 Im w (vecL 31 x ++ L)) (hx : VecE keyC 2 x ks) (hb : ks.length * 16 ≤ 140737488355328) (p : Key → Bool) {fv : Value}
    (hdel : ∀ w' Fr k R, Own w0 Im w' (Fr ++ L) → k ∈ ks → (∀ w'', Own w0 Im w'' (Fr ++ L) → R (.returned (.bool (p k))) w'') → Invoke Try.prog fv #[.agg (keyC k).toArray] w' R)
    (hR : ∀ w' x', Own w0 Im w' (vecL 31 x' ++ L) → VecE keyC 2 x' (ks.filter fun k => !p k) → R (.returned (.slice (vecA x') (ks.filter (fun k => !p k)).length (vecC x'))) w') :
    Calls Try.prog 37 #[.slice (vecA x) ks.length (vecC x), fv] w R := by
  apply vc37
  unfold Vc37
  refine s54 (L := L) hx hb p (fun w' => Own w0 Im w' (vecL 31 x ++ L)) (fun _ h => h) h (fun w' k R hj hk hr => hdel w' (vecL 31 x) k R hj hk hr) (fun w' ho hall => ⟨_, rfl, fun _ => ?_, fun e => absurd rfl e⟩) (fun w' i hi ho hpi hbef => ⟨_, rfl, fun e => (by omega), fun _ => ?_⟩)
  · have e : ks.filter (fun k => !p k) = ks := List.filter_eq_self.2 fun k hk => by simp [hall k hk]
    have := hR w' x ho (by rw [e]; exact hx)
    rw [e] at this; exact this
  · have hcap := hx.cap
    let Inv : Nat → Int → Int → World → Prop := fun m vi vj w' => ∃ (j : Nat) (x' : VecB) (mid : List Key), m = ks.length - j ∧ vj = j ∧ j ≤ ks.length ∧ vi = ((ks.take j).filter fun k => !p k).length ∧ ((ks.take j).filter fun k => !p k).length + mid.length = j ∧
      Own w0 Im w' (vecL 31 x' ++ L) ∧ VecE keyC 2 x' (((ks.take j).filter fun k => !p k) ++ mid ++ ks.drop j) ∧ vecA x' = vecA x ∧ vecC x' = vecC x
    refine ⟨fun vi w' => Inv 0 vi ks.length w', ?_, fun r11 e11 => ?_⟩
    · rintro vi w' ⟨j, x', mid, _, ej, hj, rfl, hmid, ho, hx', ea, ec⟩
      have ej' : j = ks.length := by omega
      subst ej'
      rw [List.take_length] at hmid hx' ⊢
      rw [List.drop_length, List.append_nil] at hx'
      have hl : ((ks.filter fun k => !p k) ++ mid).length = ks.length := by rw [List.length_append]; omega
      have et : (((ks.filter fun k => !p k).length : Nat) : Int).toNat = (ks.filter fun k => !p k).length := by omega
      refine ⟨by omega, by omega, fun a8 e8 => ?_⟩
      obtain ⟨x2, w9, hr, ea2, ec2, ho2, hx2⟩ := vecE_clear (n := 2) (P := Try.prog) (t := 40) (ty := 0) (e := 31) (z := Value.agg #[.int .i64 0, .int .i64 0]) Try.underlying40 Try.type31 rfl rfl (by intro u hu; simp [Value.cells] at hu; rcases hu with rfl | rfl <;> rfl) (by omega) keyC_len ho hx' (ks.filter fun k => !p k).length (by rw [hl]; omega)
      rw [hl, ea, ec] at hr
      rw [e8, et]
      refine ⟨w9, hr, by omega, by omega, fun a10 e10 => ?_⟩
      rw [List.take_left] at hx2
      have := hR w9 x2 ho2 hx2
      rw [ea2, ec2, ea, ec] at this
      rw [e10]; exact this
    · rw [wrap_id (by omega) (by omega)] at e11
      refine ⟨Inv, ⟨ks.length - (i + 1), i + 1, x, [ks[i]], rfl, by omega, by omega, ?_, ?_, ho, ?_, rfl, rfl⟩, ?_⟩
      · rw [kept_first hi hpi hbef, List.length_take]; omega
      · rw [kept_first hi hpi hbef]; simp; omega
      · rw [kept_first hi hpi hbef]
        have e1 : ks.take i ++ [ks[i]] ++ ks.drop (i + 1) = ks := by simp
        rw [e1]; exact hx
      · rintro m vi vj w15 ⟨j, x', mid, rfl, rfl, hj, rfl, hmid, ho, hx', ea, ec⟩
        refine ⟨fun hlt => ?_, fun hge => ?_⟩
        · have hjl : j < ks.length := by omega
          have ej : ((j : Nat) : Int).toNat = j := by omega
          have ei : (((((ks.take j).filter fun k => !p k).length : Nat) : Int)).toNat = ((ks.take j).filter fun k => !p k).length := by omega
          have hdrop : ks.drop j = ks[j] :: ks.drop (j + 1) := List.drop_eq_getElem_cons hjl
          rw [hdrop] at hx'
          generalize hK : ((ks.take j).filter fun k => !p k) = K at *
          have hlen : (K ++ mid ++ ks[j] :: ks.drop (j + 1)).length = ks.length := by simp; omega
          have hget : (K ++ mid ++ ks[j] :: ks.drop (j + 1))[j]'(by omega) = ks[j] := by
            have h0 : (K ++ mid ++ ks[j] :: ks.drop (j + 1))[j]? = some ks[j] := by
              rw [List.getElem?_append_right (by simp; omega)]
              have : j - (K ++ mid).length = 0 := by simp; omega
              rw [this]; rfl
            exact Option.some.inj ((List.getElem?_eq_getElem _).symm.trans h0)
          obtain ⟨g, eg, hc⟩ := vecE_at (e := 31) keyC_len ho (fun p hp => List.mem_append_left _ hp) hx' (i := j) (by omega)
          rw [hget] at hc
          rw [ea] at eg
          refine ⟨g, 0, eg, by omega, by omega, _, _, by rw [ej, Nat.zero_add]; exact hc, fun b20 w21 e20 e21 => ?_⟩
          have h21 := ho.alloc' e20 e21
          refine ⟨h21.putOk 0 rfl (by simp), fun w22 e22 => ?_⟩
          have h22 : Own w0 Im w22 ((b20, .cells (keyC ks[j]).toArray 31 (0, 0)) :: (vecL 31 x' ++ L)) := by rw [e22]; exact h21.put (keyC ks[j]) 0 0 rfl 0
          refine ⟨_, _, h22.cellsAt 0 rfl (fun j v hj => by rw [Nat.zero_add, List.getElem?_toArray]; exact hj), ?_⟩
          refine hdel w22 ((b20, .cells (keyC ks[j]).toArray 31 (0, 0)) :: vecL 31 x') ks[j] _ h22 (List.getElem_mem hjl) fun w26 h26 => ⟨_, rfl, fun ht r28 e28 => ?_, fun hf => ?_⟩
          · rw [wrap_id (by omega) (by omega)] at e28
            refine ⟨_, by omega, j + 1, x', mid ++ [ks[j]], rfl, by omega, by omega, by rw [kept_yes hjl ht, hK], by rw [kept_yes hjl ht, hK]; simp; omega, h26.tail rfl, ?_, ea, ec⟩
            rw [kept_yes hjl ht, hK]
            have e1 : K ++ (mid ++ [ks[j]]) ++ ks.drop (j + 1) = K ++ mid ++ ks[j] :: ks.drop (j + 1) := by simp
            rw [e1]; exact hx'
          · have h26' : Own w0 Im w26 ((b20, .cells (keyC ks[j]).toArray 31 (0, 0)) :: (vecL 31 x' ++ L)) := h26
            refine ⟨_, _, h26'.cellsAt 0 rfl (fun j v hj => by rw [Nat.zero_add, List.getElem?_toArray]; exact hj), by omega, by omega, ?_⟩
            obtain ⟨g2, eg2, hok, x2, ea2, ec2, ho2, hx2⟩ := vecE_put (f := keyC) keyC_len (h26'.tail rfl) hx' (i := K.length) (by omega) ks[j]
            rw [ea, eg] at eg2
            have eg2 : g = g2 := by simpa using eg2
            subst eg2
            obtain ⟨mid', hm', hset⟩ := kept_set K mid ks[j] (ks.drop (j + 1))
            rw [hset] at hx2
            rw [ei, Nat.zero_add]
            refine ⟨hok, fun w32 e32 r33 e33 r34 e34 => ?_⟩
            rw [wrap_id (by omega) (by omega)] at e33 e34
            have h32 : Own w0 Im w32 (vecL 31 x2 ++ L) := by rw [e32]; exact ho2
            refine ⟨_, by omega, j + 1, x2, mid', rfl, by omega, by omega, by rw [kept_no hjl hf, hK]; simp; omega, by rw [kept_no hjl hf, hK]; simp; omega, h32, ?_, ea2.trans ea, ec2.trans ec⟩
            rw [kept_no hjl hf, hK]; exact hx2
        · have e : j = ks.length := by omega
          subst e
          exact ⟨ks.length, x', mid, by omega, rfl, hj, rfl, hmid, ho, hx', ea, ec⟩

/-- maps.DeleteFunc -/
theorem s39 {mb : Nat} {M : List (Ent Key)} {clk : Nat} (h : Own w0 Im w ((mb, mapObj keyE M clk) :: L)) (hn : (M.map (·.1)).Nodup) (hb : Born M clk) (hv : ∀ e ∈ M, ∃ n, e.2.1 = .int .u32 n) (p : Key → Bool) {fv : Value}
    (hdel : ∀ w' Fr k v R, Own w0 Im w' (Fr ++ L) → (∀ w'', Own w0 Im w'' (Fr ++ L) → R (.returned (.bool (p k))) w'') → Invoke Try.prog fv #[keyE k, .int .u32 v] w' R)
    (hR : ∀ w', Own w0 Im w' ((mb, mapObj keyE (M.filter fun e => !p e.1) clk) :: L) → R (.returned (.tuple #[])) w') :
    Calls Try.prog 39 #[.map (some mb), fv] w R := by
  apply vc39
  unfold Vc39
  obtain ⟨w3, hr3, h3⟩ := own_range (P := Try.prog) (enc := keyE) (b := mb) Try.underlying57 h (List.mem_cons_self ..)
  refine ⟨_, w3, hr3, ?_⟩
  generalize w.heap.size = r at h3 ⊢
  let Mc : Array Nat → List (Ent Key) := fun seen => M.filter fun e => !(p e.1 && decide (e.2.2 ∈ seen.toList))
  have uniq : ∀ e ∈ M, ∀ e' ∈ M, e.2.2 = e'.2.2 → e = e' := fun e he e' he' hbe => by
    obtain ⟨i, hi, rfl⟩ := List.mem_iff_getElem.1 he
    obtain ⟨j, hj, rfl⟩ := List.mem_iff_getElem.1 he'
    have := nodup_inj hb.nd (i := i) (j := j) (by simpa using hi) (by simpa using hj) (by simpa using hbe)
    subst this; rfl
  have uniqk : ∀ e ∈ M, ∀ e' ∈ M, e.1 = e'.1 → e = e' := fun e he e' he' hbe => by
    obtain ⟨i, hi, rfl⟩ := List.mem_iff_getElem.1 he
    obtain ⟨j, hj, rfl⟩ := List.mem_iff_getElem.1 he'
    have := nodup_inj hn (i := i) (j := j) (by simpa using hi) (by simpa using hj) (by simpa using hbe)
    subst this; rfl
  refine ⟨fun m w' => ∃ seen : Array Nat, m = (M.filter fun e => !decide (e.2.2 ∈ seen.toList)).length ∧ Own w0 Im w' ((r, .mapIter (some mb) clk seen clk) :: (mb, mapObj keyE (Mc seen) clk) :: L), ⟨_, #[], rfl, ?_⟩, ?_⟩
  · have e : Mc #[] = M := List.filter_eq_self.2 fun e _ => by simp
    rw [e]; exact h3
  rintro m w6 ⟨seen, rfl, h6⟩
  have hsub : (Mc seen).Sublist M := List.filter_sublist
  rcases own_next (P := Try.prog) (enc := keyE) (M := Mc seen) (b := mb) (clk := clk) (ty := 0) h6 (List.mem_cons_self ..) (fun e he => hb.lt e (hsub.subset he)) (Nat.le_refl _) with ⟨hall, hrun⟩ | ⟨e, he, hes, w9, hrun, h9⟩
  · refine ⟨false, _, w6, hrun, fun w' => ex_over w', fun e => (by cases e), fun _ => ?_⟩
    have e : Mc seen = M.filter fun e => !p e.1 := by
      refine List.filter_congr fun e he => ?_
      cases hp : p e.1 with
      | false => simp
      | true =>
        have hm : e.2.2 ∈ seen.toList := by
          refine Classical.byContradiction fun hns => hns (hall e (List.mem_filter.2 ⟨he, ?_⟩))
          simp only [hns, decide_false, Bool.and_false, Bool.not_false]
        simp [hm]
    rw [e] at h6
    exact hR w6 (h6.tail rfl)
  · have heM := hsub.subset he
    obtain ⟨n, hnv⟩ := hv e heM
    have hlt : (M.filter fun x => !decide (x.2.2 ∈ (seen.push e.2.2).toList)).length < (M.filter fun x => !decide (x.2.2 ∈ seen.toList)).length := by
      have e1 : (M.filter fun x => !decide (x.2.2 ∈ (seen.push e.2.2).toList)) = ((M.filter fun x => !decide (x.2.2 ∈ seen.toList)).filter fun x => !decide (x.2.2 = e.2.2)) := by
        rw [List.filter_filter]
        refine List.filter_congr fun x _ => ?_
        by_cases h1 : x.2.2 ∈ seen.toList <;> by_cases h2 : x.2.2 = e.2.2 <;> simp [h1, h2]
      rw [e1]
      refine Nat.lt_of_le_of_ne (List.length_filter_le _ _) fun h => ?_
      have := List.length_filter_eq_length_iff.1 h e (List.mem_filter.2 ⟨heM, by simpa using hes⟩)
      simp at this
    have hent : (Instr.entry (.pointer (some ⟨r, 0, none⟩))).run Try.prog w9 = .ok (.tuple #[keyE e.1, e.2.1]) w9 := own_entry h9 (List.mem_cons_self ..) he ((hsub.map _).nodup hb.nd)
    refine ⟨true, _, w9, hrun, fun w' => ex_next _ _ w', fun _ => ?_, fun e => (by cases e)⟩
    rw [hnv] at hent
    refine ⟨e.1.1, e.1.2, n, hent, fun b13 w14 e13 e14 => ?_⟩
    have h14 := h9.alloc' e13 e14
    refine ⟨h14.putOk 0 rfl (by simp), fun w15 e15 => ?_⟩
    have h15 : Own w0 Im w15 ((b13, .cells (keyC e.1).toArray 31 (0, 0)) :: (r, .mapIter (some mb) clk (seen.push e.2.2) clk) :: (mb, mapObj keyE (Mc seen) clk) :: L) := by rw [e15]; exact h14.put (keyC e.1) 0 0 rfl 0
    have hat : ∀ {w' : World}, Own w0 Im w' ((b13, .cells (keyC e.1).toArray 31 (0, 0)) :: (r, .mapIter (some mb) clk (seen.push e.2.2) clk) :: (mb, mapObj keyE (Mc seen) clk) :: L) → CellsAt w' ⟨b13, 0, none⟩ (keyC e.1) := fun h => h.cellsAt 0 rfl (fun j v hj => by rw [Nat.zero_add, List.getElem?_toArray]; exact hj)
    refine ⟨_, _, hat h15, ?_⟩
    refine hdel w15 [_, _, _] e.1 n _ h15 fun w19 h19 => ⟨_, rfl, fun hp => ?_, fun hp => ?_⟩
    · have hdl := run_delete (P := Try.prog) (t := 57) (u := 31) (ty := 0) Try.underlying57 keyKey ((hsub.map _).nodup hn) (h19.get 2 rfl) e.1
      refine ⟨_, _, hat h19, _, hdl, _, hlt, seen.push e.2.2, rfl, ?_⟩
      have h23 := (h19.setObj 2 rfl (o' := mapObj keyE (adel (Mc seen) e.1) clk)).tail rfl
      have e1 : adel (Mc seen) e.1 = Mc (seen.push e.2.2) := by
        unfold adel
        show List.filter _ (List.filter _ M) = List.filter _ M
        rw [List.filter_filter]
        refine List.filter_congr fun x hx => ?_
        by_cases h1 : x.1 = e.1
        · have := uniqk x hx e heM h1
          subst this
          simp [hp]
        · have h2 : x.2.2 ≠ e.2.2 := fun h2 => h1 (congrArg _ (uniq x hx e heM h2))
          simp [h1, h2]
      rw [e1] at h23 ⊢
      exact h23
    · refine ⟨_, hlt, seen.push e.2.2, rfl, ?_⟩
      have e1 : Mc (seen.push e.2.2) = Mc seen := by
        refine List.filter_congr fun x hx => ?_
        by_cases h2 : x.2.2 = e.2.2
        · have := uniq x hx e heM h2
          subst this
          simp [hp]
        · simp [h2]
      rw [e1]
      exact h19.tail rfl

/-- The closures of forget. -/
theorem s38 {b : Nat} {sp : Int} {k : Key} (h : Own w0 Im w L) (hm : (b, .cells #[.int .i64 sp] 3 (0, 0)) ∈ L) (hR : ∀ w', Own w0 Im w' L → R (.returned (.bool (decide (k.1 = sp)))) w') :
    Invoke Try.prog (.func (.func 38) #[] #[.pointer (some ⟨b, 0, none⟩)]) #[keyE k] w R := by
  refine ⟨38, #[], #[.pointer (some ⟨b, 0, none⟩)], rfl, Try.call38, ?_⟩
  apply vc38
  unfold Vc38
  intro b4 w5 e4 e5
  have h5 := h.alloc' e4 e5
  exact ⟨_, h5.cell 0 rfl 0, _, _, rfl, sp, by rw [cell_of (h5.mem (List.mem_cons_of_mem _ hm))]; rfl, hR w5 (h5.tail rfl)⟩
theorem s40 {b : Nat} {sp : Int} {k : Key} {v : Int} (h : Own w0 Im w L) (hm : (b, .cells #[.int .i64 sp] 3 (0, 0)) ∈ L) (hR : ∀ w', Own w0 Im w' L → R (.returned (.bool (decide (k.1 = sp)))) w') :
    Invoke Try.prog (.func (.func 40) #[] #[.pointer (some ⟨b, 0, none⟩)]) #[keyE k, .int .u32 v] w R := by
  refine ⟨40, #[], #[.pointer (some ⟨b, 0, none⟩)], rfl, Try.call40, ?_⟩
  apply vc40
  unfold Vc40
  intro b4 w5 e4 e5
  have h5 := h.alloc' e4 e5
  exact ⟨_, h5.cell 0 rfl 0, _, _, rfl, sp, by rw [cell_of (h5.mem (List.mem_cons_of_mem _ hm))]; rfl, hR w5 (h5.tail rfl)⟩

/-- (*hart).forget -/
theorem s23 {hb o T : Nat} {hc : Array Value} {x : HartG} (h : Own w0 Im w ((hb, .cells hc T (0, 0)) :: (x.L ++ Fr))) (hx : HartOk x) (h0 : hc[o]? = some (.map (some x.mb))) (h1 : hc[o + 1]? = some (.slice (vecA x.ov) x.E.length (vecC x.ov))) (sp : Int)
    (hR : ∀ w' x', Own w0 Im w' ((hb, .cells (hc.setIfInBounds (o + 1) (.slice (vecA x'.ov) x'.E.length (vecC x'.ov))) T (0, 0)) :: (x'.L ++ Fr)) → HartOk x' → x'.mb = x.mb → x'.E = keepE x.E sp → R (.returned (.int .i64 ((x.E.length : Int) - ((keepE x.E sp).length : Int)))) w') :
    Calls Try.prog 23 #[.pointer (some ⟨hb, o, none⟩), .int .i64 sp] w R := by
  apply vc23
  unfold Vc23
  intro b3 w4 e3 e4
  have h4 := h.alloc' e3 e4
  have hlen : (x.E.map (·.1)).length = x.E.length := by simp
  have hsm := hx.len
  have hc1 : ∀ {w' l}, Own w0 Im w' ((b3, .cells #[.int .i64 sp] 3 (0, 0)) :: (hb, .cells hc T (0, 0)) :: l) → w'.cell? ⟨hb, o + 1, none⟩ = some (.slice (vecA x.ov) x.E.length (vecC x.ov)) := fun h => by rw [h.cell 1 rfl]; exact h1
  refine ⟨_, _, rfl, _, _, _, hc1 h4, _, _, _, hc1 h4, ?_⟩
  have pO : ∀ (v : VecB) (M : List (Ent Key)), ((b3, Obj.cells #[Value.int .i64 sp] 3 (0, 0)) :: (hb, Obj.cells hc T (0, 0)) :: (((x.mb, mapObj keyE M x.clk) :: vecL 31 v) ++ Fr)).Perm (vecL 31 v ++ ([(b3, Obj.cells #[Value.int .i64 sp] 3 (0, 0)), (hb, Obj.cells hc T (0, 0)), (x.mb, mapObj keyE M x.clk)] ++ Fr)) := fun v M => perm_l [_, _, _] (vecL 31 v) Fr
  rw [← hlen]
  refine s37 (h4.perm (pO x.ov x.M)) hx.vec (by rw [hlen]; omega) (fun k => decide (k.1 = sp)) (fun w' F' k R ho hk hr => s38 ho (by simp) hr) fun w10 ov' h10 hov' => ⟨_, _, _, rfl, ?_⟩
  have h10' := h10.perm (pO ov' x.M).symm
  have ho1 : o + 1 < hc.size := (Array.getElem?_eq_some_iff.1 h1).1
  have hfk : ((x.E.map (·.1)).filter fun k => !decide (k.1 = sp)) = (keepE x.E sp).map (·.1) := by unfold keepE; rw [List.filter_map]; rfl
  rw [hfk] at hov' ⊢
  have hkl : ((keepE x.E sp).map (·.1)).length = (keepE x.E sp).length := by simp
  refine ⟨by rw [h10'.cell 1 rfl, h1]; rfl, h10'.frozen 1 rfl _, fun w12 e12 => ?_⟩
  have h12 := h10'.set 1 rfl (o + 1) (.slice (vecA ov') ((keepE x.E sp).map (·.1)).length (vecC ov'))
  rw [← e12, hkl] at h12
  have hle : (keepE x.E sp).length ≤ x.E.length := List.length_filter_le _ _
  have ho0 : (hc.setIfInBounds (o + 1) (.slice (vecA ov') (keepE x.E sp).length (vecC ov')))[o]? = some (.map (some x.mb)) := by
    rw [Array.getElem?_setIfInBounds_ne (by omega)]; exact h0
  refine ⟨_, by rw [h12.cell 1 rfl]; exact ho0, ?_⟩
  have pM : ∀ (M : List (Ent Key)) (c : Obj), ((b3, Obj.cells #[Value.int .i64 sp] 3 (0, 0)) :: (hb, c) :: (((x.mb, mapObj keyE M x.clk) :: vecL 31 ov') ++ Fr)).Perm ((x.mb, mapObj keyE M x.clk) :: ([(b3, Obj.cells #[Value.int .i64 sp] 3 (0, 0)), (hb, c)] ++ (vecL 31 ov' ++ Fr))) := fun M c => perm_l [_, _] [_] (vecL 31 ov' ++ Fr)
  refine s39 (h12.perm (pM x.M _)) hx.mnd hx.born hx.vals (fun k => decide (k.1 = sp)) (fun w' F' k v R ho hr => s40 ho (by simp) hr) fun w14 h14 => ⟨rfl, ?_⟩
  have h14' := h14.perm (pM _ _).symm
  have hget : (hc.setIfInBounds (o + 1) (.slice (vecA ov') (keepE x.E sp).length (vecC ov')))[o + 1]? = some (.slice (vecA ov') (keepE x.E sp).length (vecC ov')) := by
    simp [ho1]
  refine ⟨_, _, _, by rw [h14'.cell 1 rfl]; exact hget, fun r17 e17 => ?_⟩
  rw [hlen, wrap_id (by omega) (by omega)] at e17
  subst e17
  refine hR w14 { x with M := x.M.filter fun e => !decide (e.1.1 = sp), ov := ov', E := keepE x.E sp } (h14'.tail rfl) ⟨hov', (List.filter_sublist.map _).nodup hx.mnd, hx.born.sub List.filter_sublist, fun k => ?_, ?_, by show (keepE x.E sp).length ≤ 64; omega⟩ rfl rfl
  · show aget (x.M.filter fun e => !decide (e.1.1 = sp)) k = (lookE (keepE x.E sp) k).map _
    rw [lookE_keep, aget_filter (α := Key) (p := fun k : Key => !decide (k.1 = sp)), hx.map]
    by_cases e : k.1 = sp <;> simp [e]
  · exact (List.filter_sublist.map _).nodup hx.nd
end
end Go.Proofs.Ytdhdbdpemejpjaa
