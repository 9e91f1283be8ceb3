/- A part of the proof: lemmas. -/
import Derived.Test.YtgkcckghmlccnaaVcBufI
import Derived.Test.YtgkcckghmlccnaaVcBufSort
import Derived.Test.YtgkcckghmlccnaaVcSort
namespace Go.Proofs.Ytgkcckghmlccnaa
open Go Go.Vc
set_option maxRecDepth 100000
set_option linter.unusedVariables false
section
variable {w0 w : World} {Im : Mem} {Fr L : List (Nat × Obj)} {c : CacheG} {d : DiskG} {cnt : Nat} {room : Int} {R : Ending → World → Prop}

/-- slices.Sort -/
theorem s28 {x : VecB} {zs : List Int} (h : Own w0 Im w (vecL 3 x ++ L)) (hx : VecOk 1 x zs.length (i64s zs)) (hb : zs.length < 4611686018427387904)
    (hR : ∀ w' x', Own w0 Im w' (vecL 3 x' ++ L) → VecOk 1 x' zs.length (i64s (zs.mergeSort fun x y => decide (x ≤ y))) → vecA x' = vecA x → vecC x' = vecC x → R (.returned (.tuple #[])) w') :
    Calls Try.prog 28 #[.slice (vecA x) zs.length (vecC x)] w R :=
  own_sort (fun blk off cap zs w h1 h2 h3 => Any.slices_Sort_int Try.laysSort blk off cap zs w h1 h2 h3) (fun p cap w => Any.slices_Sort_int_none Try.laysSort p cap w) h hx hb hR

/-- A slice of one's own, held for good. -/
theorem vec_hold {x : VecB} {ns : List Int} (h : Own w0 Im w (vecL 3 x ++ L)) (hx : VecOk 1 x ns.length (i64s ns)) : ∃ Im', Im.le Im' ∧ Own w0 Im' w L ∧ IntsIn Im' (vecA x) ns.length ns := by
  cases x with
  | none =>
    have h0 : ns.length = 0 := hx.none_iff rfl
    have : ns = [] := List.eq_nil_of_length_eq_zero h0
    subst this
    exact ⟨Im, Mem.le_refl _, h, rfl, .inl rfl⟩
  | some y =>
    obtain ⟨g, c, cur⟩ := y
    obtain ⟨hh, hle⟩ := Own.hold (b := g) (o := .cells cur.toArray 3 (0, 0)) (L := L) h
    refine ⟨_, hle, hh, rfl, .inr ⟨g, 0, cur.toArray, 3, (0, 0), rfl, by unfold Mem.add; exact if_pos rfl, fun k v hk => ?_⟩⟩
    obtain ⟨h1, h2, h3, h4, h5⟩ := hx
    have hj : (i64s ns)[k]? = some (.int .i64 v) := by simp only [i64s, List.getElem?_map, hk, Option.map_some]
    rw [← h5, List.getElem?_take] at hj
    split at hj
    · simpa using hj
    · cases hj

/-- (*Cache).Dirty -/
theorem s15 (h : Own w0 Im w (c.L (d.L ++ Fr))) (hi : CI Im c d cnt room)
    (hR : ∀ Im' w' a k ns, Im.le Im' → Own w0 Im' w' (c.L (d.L ++ Fr)) → IntsIn Im' a ns.length ns → ns.Nodup → (∀ m, m ∈ ns ↔ dty c m) → R (.returned (.slice a ns.length k)) w') :
    Calls Try.prog 15 #[.pointer (some ⟨c.cb, 0, none⟩)] w R := by
  apply vc15
  unfold Vc15
  have hsm := hi.ok.small
  have hdty : ∀ n r, c.look n = some r → (dty c n ↔ r.dirty = true) := fun n r hr => by
    obtain ⟨h1, h2⟩ := look_mem hr
    constructor
    · rintro ⟨x, hx, e, hd⟩
      have := look_of_mem hi.ok.rn hx
      rw [e, hr] at this; cases this; exact hd
    · exact fun hd => ⟨r, h1, h2, hd⟩
  refine s16 h hi.ok fun Im1 w3 a1 k1 hle1 h3 hints => ⟨_, _, _, rfl,
    fun m a l cc v w' => ∃ x k ns, a = vecA x ∧ cc = vecC x ∧ l = ns.length ∧ m = c.ns.length - k ∧ v = (k : Nat) ∧ k ≤ c.ns.length ∧ ns.length ≤ k ∧ Own w0 Im1 w' (vecL 3 x ++ c.L (d.L ++ Fr)) ∧ VecOk 1 x ns.length (i64s ns) ∧ ns.Sublist (c.ns.take k) ∧ (∀ j (hj : j < c.ns.length), j < k → (c.ns[j] ∈ ns ↔ dty c c.ns[j])),
    ⟨_, none, 0, [], rfl, rfl, rfl, rfl, rfl, by omega, by simp, h3, VecOk.nil, List.nil_sublist _, fun j hj hk => by omega⟩, ?_⟩
  rintro m a l cc v w8 ⟨x, k, ns, rfl, rfl, rfl, rfl, rfl, hk, hnk, h8, hx, hsub, hall⟩
  refine ⟨fun hlt => ?_, fun hge => ?_⟩
  · have hk' : k < c.ns.length := by omega
    obtain ⟨b9, o10, ea, hcell⟩ := hints.cell h8 (k := k) (v := c.ns[k]) (by simp [hk'])
    obtain ⟨r, hr⟩ := hi.good.rec (List.getElem_mem hk')
    obtain ⟨hrm, hrn⟩ := look_mem hr
    have hlk := (run_look (c := c) h8 (by simp [CacheG.L]) (hi.ok.mono hle1) c.ns[k]).2
    rw [hr] at hlk
    have et : ((k : Nat) : Int).toNat = k := by omega
    have hnot : c.ns[k] ∉ c.ns.take k := fun hm => by
      obtain ⟨j, hj, e⟩ := List.mem_iff_getElem.1 hm
      have hj' : j < k := by simp at hj; omega
      rw [List.getElem_take] at e
      have := nodup_inj hi.ok.nn (by omega) hk' e
      omega
    refine ⟨_, _, ea, by omega, hlt, _, by rw [et]; exact hcell, _, _, rfl, _, Own.cellm h8 (b := c.cb) (cs := c.cells) (T := 56) (z := (0, 0)) (by simp [CacheG.L]) (0 + 2), _, hlk, _, _, rfl, _, Own.cellm h8 (b := r.blk) (cs := #[.slice r.a 512 r.c, .bool r.dirty]) (T := 62) (z := (0, 0)) (List.mem_append_right _ (List.mem_cons_of_mem _ (List.mem_cons_of_mem _ (rec_mem hrm)))) (0 + 1), fun hd b19 w20 e19 e20 => ?_, fun hd r25 e25 => ?_⟩
    · have h20 := h8.alloc' e19 e20
      obtain ⟨x', w21, hr21, ho, hx'⟩ := own_append (t := 43) (ty := 43) (e := 3) (bytes := 8) (size := 1) (z := .int .i64 0) (a := ⟨b19, 0, none⟩) (m := 1) (c := 1) (news := [.int .i64 c.ns[k]]) Try.underlying43 Try.type3 rfl rfl rfl rfl (h20.perm (perm_l [_] (vecL 3 x) _)) hx rfl
        (h20.cellsAt 0 rfl (fun j v hj => by simpa using hj)) (by intro u hu; simp at hu; subst hu; rfl) (by omega) (by omega) (by simp only [maxLen]; omega)
      refine ⟨_, _, _, w21, hr21, fun r23 e23 => ?_⟩
      rw [wrap_id (by omega) (by omega)] at e23
      refine ⟨_, by omega, x', k + 1, ns ++ [c.ns[k]], rfl, rfl, by simp, rfl, by omega, by omega, by simp; omega, (ho.perm (perm_l [_] (vecL 3 x') _).symm).tail rfl, by simpa [i64s] using hx', ?_, fun j hj hjk => ?_⟩
      · rw [List.take_succ_eq_append_getElem hk']
        exact hsub.append (List.Sublist.refl _)
      · rw [List.mem_append, List.mem_singleton]
        by_cases e : j = k
        · subst e
          exact ⟨fun _ => (hdty _ r hr).2 hd, fun _ => .inr rfl⟩
        · rw [← hall j hj (by omega)]
          refine ⟨fun h => h.resolve_right fun e2 => e (nodup_inj hi.ok.nn hj hk' e2), .inl⟩
    · rw [wrap_id (by omega) (by omega)] at e25
      refine ⟨_, by omega, x, k + 1, ns, rfl, rfl, rfl, rfl, by omega, by omega, by omega, h8, hx, ?_, fun j hj hjk => ?_⟩
      · rw [List.take_succ_eq_append_getElem hk']
        exact hsub.trans (List.sublist_append_left _ _)
      · by_cases e : j = k
        · subst e
          refine ⟨fun hm => absurd (hsub.subset hm) hnot, fun hd2 => ?_⟩
          rw [(hdty _ r hr).1 hd2] at hd; cases hd
        · exact hall j hj (by omega)
  · have e : k = c.ns.length := by omega
    subst e
    refine s28 h8 hx (by omega) fun w27 x' h27 hx27 ea ec => ⟨rfl, ?_⟩
    have hms : (ns.mergeSort fun x y => decide (x ≤ y)).length = ns.length := List.length_mergeSort _
    rw [← hms] at hx27
    obtain ⟨Im2, hle2, h2, hin⟩ := vec_hold h27 hx27
    have hp : (ns.mergeSort fun x y => decide (x ≤ y)).Perm ns := List.mergeSort_perm _ _
    rw [← ea, ← hms]
    refine hR Im2 w27 _ _ _ (Mem.le_trans hle1 hle2) h2 hin ?_ fun m => ?_
    · refine hp.nodup_iff.2 (hsub.nodup ?_)
      rw [List.take_length]; exact hi.ok.nn
    · rw [hp.mem_iff]
      constructor
      · intro hm
        have := hsub.subset hm
        rw [List.take_length] at this
        obtain ⟨j, hj, rfl⟩ := List.mem_iff_getElem.1 this
        exact (hall j hj hj).1 hm
      · rintro ⟨r, hr, e, hd⟩
        have hm : m ∈ c.ns := (hi.good m).2 (e ▸ List.mem_map_of_mem hr)
        obtain ⟨j, hj, rfl⟩ := List.mem_iff_getElem.1 hm
        exact (hall j hj hj).2 ⟨r, hr, e, hd⟩
end
end Go.Proofs.Ytgkcckghmlccnaa
