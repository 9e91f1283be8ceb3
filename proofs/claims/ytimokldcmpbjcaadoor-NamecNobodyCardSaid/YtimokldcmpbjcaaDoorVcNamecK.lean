/- A part of the proof: lemmas. -/
import Derived.Test.YtimokldcmpbjcaaDoorVcNamecJ
namespace Go.Proofs.YtimokldcmpbjcaaDoor
open Go Go.Vc
set_option maxRecDepth 100000
set_option linter.unusedVariables false
section
variable {w0 w : World} {Im : Mem} {Fr L : List (Nat × Obj)} {r : RefG} {R : Ending → World → Prop}

theorem atK_find {E : List Kp} (hn : (E.map (·.key)).Nodup) {k : Name} {i : Nat} (h : atK E k = some i) : ∃ hi : i < E.length, E[i].key = k ∧ findK E k = some E[i] := by
  obtain ⟨hi, e⟩ := atK_some h
  exact ⟨hi, e, by rw [← e]; exact findK_of_mem hn (List.getElem_mem hi)⟩
theorem nameAt {b : Nat} {k : Name} {w' : World} {l : List (Nat × Obj)} (h : Own w0 Im w' ((b, .cells (nameC k).toArray 42 (0, 0)) :: l)) : CellsAt w' ⟨b, 0, none⟩ (nameC k) :=
  h.cellsAt 0 rfl (fun j v hj => by rw [Nat.zero_add, List.getElem?_toArray]; exact hj)

/-- (*ref.Cache).Look -/
theorem s14 (h : Own w0 Im w (r.L ++ Fr)) (hr : RefOk r) (k : Name) (hR : ∀ w', Own w0 Im w' (r.L ++ Fr) → R (.returned (.tuple #[.int .i64 (((findK r.E k).map (·.ino)).getD 0), .bool (findK r.E k).isSome])) w') :
    Calls Tryd.prog 14 #[.pointer (some ⟨r.rb, 0, none⟩), .agg #[.int .i64 k.1, .string k.2]] w R := by
  apply vc14
  unfold Vc14
  intro b4 w5 e4 e5
  have h5 := h.alloc' e4 e5
  refine ⟨_, _, nameAt h5, ?_⟩
  refine s35 (h5.tail rfl) hr k (fun hn w9 h9 => ⟨_, rfl, fun _ => ?_, fun e => absurd (show (-1 : Int) < 0 by decide) e⟩) fun w9 i hi h9 => ⟨_, rfl, fun e => absurd e (by omega), fun _ => ?_⟩
  · have := hR w9 h9
    rw [atK_none hn] at this
    exact this
  · obtain ⟨hil, hk, hf⟩ := atK_find hr.nd hi
    rw [hf] at hR
    obtain ⟨g, eg, hcell⟩ := vecE_cell (e := 54) kpC_len h9 (fun p hp => by simp [RefG.L, hp]) hr.lv hil
    have ei : ((i : Nat) : Int).toNat = i := by omega
    exact ⟨_, _, rfl, _, _, _, h9.cell 0 rfl _, _, _, eg, by omega, by omega, r.E[i].ino, by rw [ei, Nat.zero_add]; exact hcell 2 (by omega), hR w9 h9⟩

/-- (*ref.Cache).Forget -/
theorem s18 (h : Own w0 Im w (r.L ++ Fr)) (hr : RefOk r) (hb : r.gone.length < 4398046506999) (k : Name)
    (hno : findK r.E k = none → ∀ w', Own w0 Im w' (r.L ++ Fr) → R (.returned (.bool false)) w')
    (hyes : ∀ w' r' x, findK r.E k = some x → Own w0 Im w' (r'.L ++ Fr) → RefOk r' → RTurned r r' (lessK r.E k) r.last [x.id] → R (.returned (.bool true)) w') :
    Calls Tryd.prog 18 #[.pointer (some ⟨r.rb, 0, none⟩), .agg #[.int .i64 k.1, .string k.2]] w R := by
  apply vc18
  unfold Vc18
  intro b4 w5 e4 e5
  have h5 := h.alloc' e4 e5
  refine ⟨_, _, nameAt h5, ?_⟩
  refine s35 (h5.tail rfl) hr k (fun hn w9 h9 => ⟨_, rfl, fun e => absurd e (by decide), fun _ => hno (atK_none hn) w9 h9⟩) fun w9 i hi h9 => ⟨_, rfl, fun _ => ?_, fun e => absurd (show (0 : Int) ≤ i by omega) e⟩
  obtain ⟨hil, hk, hf⟩ := atK_find hr.nd hi
  refine s36 h9 hr hb hil fun w11 r' h11 hr' ht => ⟨rfl, ?_⟩
  have e : decide ((0 : Int) ≤ ((i : Nat) : Int)) = true := by simp
  rw [← lessK_at hr.nd hil, hk] at ht
  rw [e]
  exact hyes w11 r' _ hf h11 hr' ht

/-- (*ref.Cache).Put -/
theorem s16 (h : Own w0 Im w (r.L ++ Fr)) (hr : RefOk r) (hb : r.gone.length < 4398046506999) (hlo : 0 ≤ r.last) (hl : r.last < 4611686018427387904) (hrlo : 1 ≤ r.room) (hrhi : r.room ≤ 4096) (hfull : (r.E.length : Int) ≤ r.room) (k : Name) (n : Int)
    (hno : n < 0 → ∀ w', Own w0 Im w' (r.L ++ Fr) → R (.returned (.int .i64 1)) w')
    (hR : ∀ w' r', 0 ≤ n → Own w0 Im w' (r'.L ++ Fr) → RefOk r' → RTurned r r' ((putE r.E r.room k).1 ++ [⟨k, n, r.last + 1⟩]) (r.last + 1) (putE r.E r.room k).2 → R (.returned (.int .i64 0)) w') :
    Calls Tryd.prog 16 #[.pointer (some ⟨r.rb, 0, none⟩), .agg #[.int .i64 k.1, .string k.2], .int .i64 n] w R := by
  apply vc16
  unfold Vc16
  intro b5 w6 e5 e6
  have h6 := h.alloc' e5 e6
  refine ⟨fun e => hno e w6 (h6.tail rfl), fun hn => ?_⟩
  have hn0 : 0 ≤ n := by omega
  have perm5 : ∀ (r : RefG), ((b5, Obj.cells (nameC k).toArray 42 (0, 0)) :: (r.L ++ Fr)).Perm (r.L ++ ((b5, Obj.cells (nameC k).toArray 42 (0, 0)) :: Fr)) := fun r => List.perm_middle.symm
  refine ⟨fun w' => ∃ r1, Own w0 Im w' ((b5, .cells (nameC k).toArray 42 (0, 0)) :: (r1.L ++ Fr)) ∧ RefOk r1 ∧ RTurned r r1 (putE r.E r.room k).1 r.last (putE r.E r.room k).2 ∧ findK r1.E k = none ∧ (r1.E.length : Int) < r1.room, ?_, ?_⟩
  · rintro w7 ⟨r1, h7, hr1, ht, hfn, hroom⟩
    have hlast1 : r1.last = r.last := ht.last
    refine ⟨_, _, by rw [← ht.rb], _, h7.cell 1 rfl _, fun r11 e11 => ⟨by rw [h7.cell 1 rfl _]; rfl, h7.frozen 1 rfl _, fun w12 e12 => ?_⟩⟩
    rw [wrap_id (by omega) (by omega)] at e11
    have h12 := h7.set 1 rfl (0 + 2) (.int .i64 r11)
    rw [← e12] at h12
    have h12 := h12.drew
    refine ⟨_, _, _, h12.cell 1 rfl _, _, _, nameAt h12, _, h12.cell 1 rfl _, fun b17 w18 e17 e18 => ?_⟩
    have h18 := h12.alloc' e17 e18
    refine ⟨h18.cell 2 rfl _, h18.cellsAt 1 rfl (vs := nameC k) (fun j v hj => by rw [Nat.zero_add, List.getElem?_toArray]; exact hj), h18.cell 2 rfl _, ?_⟩
    have hlen := hr1.len
    have p4 : ∀ (x : VecB) (o o1 o2 : Nat × Obj), (o :: o1 :: o2 :: ((vecL 54 x ++ vecL 3 r1.gv) ++ Fr)).Perm (vecL 54 x ++ ([o, o1, o2] ++ (vecL 3 r1.gv ++ Fr))) := fun x o o1 o2 => by
      rw [List.append_assoc]; exact perm_l [o, o1, o2] (vecL 54 x) (vecL 3 r1.gv ++ Fr)
    obtain ⟨lv', w19, hr19, ho, hlv⟩ := vecE_append (n := 4) (P := Tryd.prog) (t := 37) (ty := 37) (e := 54) (bytes := 40) (z := .agg #[.int .i64 0, .string ByteArray.empty, .int .i64 0, .int .i64 0]) (f := kpC) (a := some ⟨b17, 0, none⟩) (c := 1) (ys := [(⟨k, n, r11⟩ : Kp)]) Tryd.underlying37 Tryd.type54 rfl rfl rfl rfl kpC_len kpC_one
      (h18.perm (p4 r1.lv _ _ _)) hr1.lv (fun _ => ⟨_, rfl, h18.cellsAt 0 rfl (fun j v hj => by rw [Nat.zero_add, List.getElem?_toArray]; simpa [kpC] using hj)⟩) (by simp; omega) (by simp [maxLen]; omega)
    refine ⟨_, _, _, w19, hr19, ?_⟩
    have h19 := (ho.perm (p4 lv' _ _ _).symm).tail rfl
    refine ⟨h19.cell 1 rfl _, nameAt h19, by rw [h19.cell 1 rfl _]; rfl, h19.frozen 1 rfl _, fun w21 e21 => ?_⟩
    have h21 := h19.set 1 rfl (0 + 1) (.slice (vecA lv') (r1.E.length + [(⟨k, n, r11⟩ : Kp)].length) (vecC lv'))
    rw [← e21] at h21
    refine hR w21 { r1 with lv := lv', E := r1.E ++ [⟨k, n, r11⟩], last := r11 } hn0 ?_ ⟨hlv, hr1.gv, ?_, ?_, hr1.gl⟩ ⟨ht.rb, ht.room, by rw [e11, hlast1]; show r1.E ++ _ = _; rw [ht.E], by rw [e11, hlast1], ht.gone⟩
    · have := h21.tail rfl
      unfold RefG.L RefG.cells
      simp only [List.length_append, List.length_cons, List.length_nil, Nat.zero_add] at this ⊢
      exact this
    · show ((r1.E ++ ([⟨k, n, r11⟩] : List Kp)).map (·.key)).Nodup
      rw [List.map_append]
      refine List.nodup_append.2 ⟨hr1.nd, by simp, ?_⟩
      intro x hx y hy e
      simp at hy
      exact findK_none.1 hfn (by rw [← hy, ← e]; exact hx)
    · show (r1.E ++ ([⟨k, n, r11⟩] : List Kp)).length ≤ 4096
      have := ht.room
      rw [List.length_append, List.length_singleton]; omega
  · refine ⟨_, _, nameAt h6, ?_⟩
    refine s35 (h6.perm (perm5 r)) hr k (fun hat w25 h25 => ⟨_, rfl, fun e => absurd e (by decide), fun _ => ?_⟩) fun w25 i hat h25 => ⟨_, rfl, fun _ => ?_, fun e => absurd (show (0 : Int) ≤ i by omega) e⟩
    · have hfn := atK_none hat
      have h25 := h25.drew
      refine ⟨_, _, rfl, _, _, _, h25.cell 0 rfl _, _, h25.cell 0 rfl _, fun hroom => ?_, fun hroom => ?_⟩
      · cases hE : r.E with
        | nil => rw [hE] at hroom; simp at hroom; omega
        | cons x t =>
          have h0 : 0 < r.E.length := by rw [hE]; simp
          refine s36 (i := 0) h25 hr hb h0 fun w33 r1 h33 hr1 ht => ⟨rfl, r1, h33.perm (perm5 r1).symm, hr1, ?_, ?_, ?_⟩
          · have hput : putE r.E r.room k = (t, [x.id]) := by
              unfold putE
              rw [hfn]
              simp only [if_pos hroom]
              rw [hE]
            rw [hE] at hput
            rw [hput]
            have : (r.E.take 0 ++ r.E.drop (0 + 1)) = t := by rw [hE]; rfl
            rw [this] at ht
            have e2 : r.E[0].id = x.id := by simp [hE]
            rw [e2] at ht
            exact ht
          · rw [ht.E]
            refine findK_none.2 fun hm => findK_none.1 hfn ?_
            rw [hE] at hm ⊢
            exact List.mem_cons_of_mem _ hm
          · rw [ht.E, ht.room]
            rw [hE] at hfull ⊢
            simp at hfull ⊢; omega
      · have hput : putE r.E r.room k = (r.E, []) := by
          unfold putE
          rw [hfn]
          simp only [if_neg hroom]
        exact ⟨r, h25.perm (perm5 r).symm, hr, by rw [hput]; exact RTurned.refl r, hfn, by omega⟩
    · obtain ⟨hil, hk, hf⟩ := atK_find hr.nd hat
      refine s36 h25 hr hb hil fun w27 r1 h27 hr1 ht => ⟨rfl, r1, h27.perm (perm5 r1).symm, hr1, ?_, ?_, ?_⟩
      · have hput : putE r.E r.room k = (lessK r.E k, [r.E[i].id]) := by
          unfold putE
          rw [hf]
        rw [← lessK_at hr.nd hil, hk] at ht
        rw [hput]; exact ht
      · rw [ht.E, ← lessK_at hr.nd hil, hk]; unfold lessK; rw [findK_filter, if_pos rfl]
      · rw [ht.E, ht.room]
        simp; omega

/-- (*ref.Cache).ForgetDir -/
theorem s20 (h : Own w0 Im w (r.L ++ Fr)) (hr : RefOk r) (hb : r.gone.length < 4398046502000) (dir : Int)
    (hR : ∀ w' r', Own w0 Im w' (r'.L ++ Fr) → RefOk r' → RTurned r r' (dirE r.E dir).1 r.last (dirE r.E dir).2 → R (.returned (.int .i64 (dirE r.E dir).2.length)) w') :
    Calls Tryd.prog 20 #[.pointer (some ⟨r.rb, 0, none⟩), .int .i64 dir] w R := by
  apply vc20
  unfold Vc20
  have hlen := hr.len
  refine ⟨fun m v3 v4 w' => ∃ (j : Nat) (r1 : RefG), m = r.E.length - j ∧ j ≤ r.E.length ∧ v3 = (((r.E.take j).filter fun x => decide (x.key.1 = dir)).length : Nat) ∧ v4 = (((r.E.take j).filter fun x => !decide (x.key.1 = dir)).length : Nat) ∧ Own w0 Im w' (r1.L ++ Fr) ∧ RefOk r1 ∧
      RTurned r r1 (((r.E.take j).filter fun x => !decide (x.key.1 = dir)) ++ r.E.drop j) r.last (((r.E.take j).filter fun x => decide (x.key.1 = dir)).map (·.id)),
    ⟨_, 0, r, rfl, by omega, by simp, by simp, h, hr, by simpa using RTurned.refl r⟩, ?_⟩
  rintro m v3 v4 w6 ⟨j, r1, rfl, hj, rfl, rfl, h6, hr1, ht⟩
  have hEl : (r1.E.length : Int) = (((r.E.take j).filter fun x => !decide (x.key.1 = dir)).length : Nat) + (r.E.length - j) := by
    rw [ht.E]; simp; omega
  refine ⟨_, _, by rw [← ht.rb], _, _, _, h6.cell 0 rfl _, fun hlt => ?_, fun hge => ?_⟩
  · have hj' : j < r.E.length := by omega
    have hdrop : r.E.drop j = r.E[j] :: r.E.drop (j + 1) := List.drop_eq_getElem_cons hj'
    have hE := ht.E
    rw [hdrop] at hE
    have hfl : ((r.E.take j).filter fun x => decide (x.key.1 = dir)).length ≤ j := by
      have h1 := List.length_filter_le (fun x : Kp => decide (x.key.1 = dir)) (r.E.take j)
      have h2 : (r.E.take j).length = j := by simp; omega
      omega
    have hfl2 : ((r.E.take j).filter fun x => !decide (x.key.1 = dir)).length ≤ j := by
      have h1 := List.length_filter_le (fun x : Kp => !decide (x.key.1 = dir)) (r.E.take j)
      have h2 : (r.E.take j).length = j := by simp; omega
      omega
    have hi : ((r.E.take j).filter fun x => !decide (x.key.1 = dir)).length < r1.E.length := by omega
    have ei : ((((r.E.take j).filter fun x => !decide (x.key.1 = dir)).length : Nat) : Int).toNat = ((r.E.take j).filter fun x => !decide (x.key.1 = dir)).length := by omega
    have hget : r1.E[((r.E.take j).filter fun x => !decide (x.key.1 = dir)).length] = r.E[j] := by
      have : r1.E[((r.E.take j).filter fun x => !decide (x.key.1 = dir)).length]? = some r.E[j] := by
        rw [hE, List.getElem?_append_right (Nat.le_refl _), Nat.sub_self]; rfl
      exact Option.some.inj ((List.getElem?_eq_getElem _).symm.trans this)
    obtain ⟨g, eg, hcell⟩ := vecE_cell (e := 54) kpC_len h6 (fun p hp => by simp [RefG.L, hp]) hr1.lv hi
    refine ⟨_, _, _, h6.cell 0 rfl _, _, _, eg, by omega, hlt, r.E[j].key.1, by rw [ei, Nat.zero_add]; have := hcell 0 (by omega); rw [hget] at this; exact this, fun hd => ?_, fun hd r18 e18 => ?_⟩
    · have hgl : r1.gone.length < 4398046506999 := by
        have := ht.gone
        rw [this, List.length_append, List.length_map]
        omega
      have H := fun R hR => s36 (R := R) (i := ((r.E.take j).filter fun x => !decide (x.key.1 = dir)).length) h6 hr1 hgl hi hR
      refine H _ ?_
      intro w14 r2 h14 hr2 ht2
      refine ⟨rfl, fun r16 e16 => ?_⟩
      rw [wrap_id (by omega) (by omega)] at e16
      have ht3 := ht.trans ht2
      have e1 : r1.E.take ((r.E.take j).filter fun x => !decide (x.key.1 = dir)).length = ((r.E.take j).filter fun x => !decide (x.key.1 = dir)) := by
        rw [hE]; exact List.take_left
      have e2 : r1.E.drop (((r.E.take j).filter fun x => !decide (x.key.1 = dir)).length + 1) = r.E.drop (j + 1) := by
        rw [hE, ← List.drop_drop, List.drop_left]; rfl
      rw [e1, e2, ht.last, hget] at ht3
      refine ⟨_, by omega, j + 1, r2, rfl, by omega, ?_, ?_, h14, hr2, ?_⟩
      · rw [take_yes (p := fun x => decide (x.key.1 = dir)) hj' (by simp [hd]), List.length_append, List.length_singleton]; omega
      · rw [take_no (p := fun x => !decide (x.key.1 = dir)) hj' (by simp [hd])]
      · rw [take_yes (p := fun x => decide (x.key.1 = dir)) hj' (by simp [hd]), take_no (p := fun x => !decide (x.key.1 = dir)) hj' (by simp [hd]), List.map_append]
        exact ht3
    · rw [wrap_id (by omega) (by omega)] at e18
      refine ⟨_, by omega, j + 1, r1, rfl, by omega, ?_, ?_, h6, hr1, ?_⟩
      · rw [take_no (p := fun x => decide (x.key.1 = dir)) hj' (by simp [hd])]
      · rw [take_yes (p := fun x => !decide (x.key.1 = dir)) hj' (by simp [hd]), List.length_append, List.length_singleton]; omega
      · rw [take_no (p := fun x => decide (x.key.1 = dir)) hj' (by simp [hd]), take_yes (p := fun x => !decide (x.key.1 = dir)) hj' (by simp [hd]), List.append_assoc, List.singleton_append, ← hdrop]
        exact ht
  · have e : j = r.E.length := by omega
    subst e
    rw [List.take_length, List.drop_length, List.append_nil] at ht
    have := hR w6 r1 h6 hr1 ht
    rw [List.take_length]
    simpa [dirE] using this
end
end Go.Proofs.YtimokldcmpbjcaaDoor
