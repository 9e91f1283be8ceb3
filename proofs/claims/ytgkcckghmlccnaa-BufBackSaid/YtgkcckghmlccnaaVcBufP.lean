/- A part of the proof: lemmas. -/
import Derived.Test.YtgkcckghmlccnaaVcBufM
namespace Go.Proofs.Ytgkcckghmlccnaa
open Go Go.Vc
set_option maxRecDepth 100000
set_option linter.unusedVariables false

theorem sector_put {plb bs : List Int} {n m : Nat} (hl : n * 512 + 512 ≤ plb.length) (hb : bs.length = 512) :
    ((plb.take (n * 512) ++ bs ++ plb.drop (n * 512 + 512)).drop (m * 512)).take 512 = if m = n then bs else (plb.drop (m * 512)).take 512 := by
  apply List.ext_getElem?
  intro j
  have hlen : (plb.take (n * 512)).length = n * 512 := by rw [List.length_take]; omega
  by_cases e : m = n
  · subst e
    rw [if_pos rfl, List.getElem?_take, List.getElem?_drop, List.append_assoc, List.getElem?_append_right (by omega), hlen]
    by_cases hj : j < 512
    · rw [if_pos hj, List.getElem?_append_left (by omega)]
      congr 1; omega
    · rw [if_neg hj, List.getElem?_eq_none (by omega)]
  · rw [if_neg e, List.getElem?_take, List.getElem?_take, List.getElem?_drop, List.getElem?_drop, List.append_assoc]
    by_cases hj : j < 512
    · rw [if_pos hj, if_pos hj]
      rcases Nat.lt_or_gt_of_ne e with h | h
      · rw [List.getElem?_append_left (by omega), List.getElem?_take, if_pos (by omega)]
      · rw [List.getElem?_append_right (by omega), hlen, List.getElem?_append_right (by omega), hb, List.getElem?_drop]
        congr 1; omega
    · rw [if_neg hj, if_neg hj]

section
variable {w0 w : World} {Im : Mem} {Fr L : List (Nat × Obj)} {c : CacheG} {d : DiskG} {cnt : Nat} {room : Int} {R : Ending → World → Prop}

/-- (*Disk).clear -/
theorem s32 (h : Own w0 Im w (d.L ++ Fr)) (hR : ∀ w' b5, Own w0 Im w' (({ d with pend := none, S := [], mb := b5, M := [], clk := 0 } : DiskG).L ++ Fr) → R (.returned (.tuple #[])) w') :
    Calls Try.prog 32 #[.pointer (some ⟨d.db, 0, none⟩)] w R := by
  apply vc32
  unfold Vc32
  refine ⟨_, _, rfl, by rw [h.cell 0 rfl _]; rfl, h.frozen 0 rfl _, fun w4 e4 b5 w6 e5 e6 => ?_⟩
  have h4 := h.set 0 rfl (0 + 1) (.slice none 0 0)
  rw [← e4] at h4
  have h6 := h4.alloc' e5 e6
  refine ⟨by rw [h6.cell 1 rfl _]; rfl, h6.frozen 1 rfl _, fun w7 e7 => ?_⟩
  have h7 := h6.set 1 rfl (0 + 2) (.map (some b5))
  rw [← e7] at h7
  refine hR w7 b5 ?_
  have h8 : Own w0 Im w7 ((b5, .map #[] 0) :: (d.db, .cells ({ d with pend := none, S := [], mb := b5, M := [], clk := 0 } : DiskG).cells 51 (0, 0)) :: (d.pb, .cells (u8s d.plb).toArray 5 (0, 0)) :: (d.mb, mapObj (Go.Vc.encI .i64) d.M d.clk) :: (vecL 66 d.pend ++ Fr)) := h7
  have hs : List.Sublist ((b5, Obj.map #[] 0) :: (d.db, Obj.cells ({ d with pend := none, S := [], mb := b5, M := [], clk := 0 } : DiskG).cells 51 (0, 0)) :: (d.pb, .cells (u8s d.plb).toArray 5 (0, 0)) :: Fr)
      ((b5, .map #[] 0) :: (d.db, .cells ({ d with pend := none, S := [], mb := b5, M := [], clk := 0 } : DiskG).cells 51 (0, 0)) :: (d.pb, .cells (u8s d.plb).toArray 5 (0, 0)) :: (d.mb, mapObj (Go.Vc.encI .i64) d.M d.clk) :: (vecL 66 d.pend ++ Fr)) :=
    List.Sublist.cons_cons _ (List.Sublist.cons_cons _ (List.Sublist.cons_cons _ (List.Sublist.cons _ (List.sublist_append_right _ _))))
  have h9 := h8.sub hs
  refine h9.perm ?_
  exact (List.Perm.swap _ _ _).trans ((List.Perm.swap _ _ _).cons _)

/-- (*Disk).Flush -/
theorem s17 (h : Own w0 Im w (d.L ++ Fr)) (hd : DiskOk Im d cnt) (hS : d.S.length < 4398046511103)
    (hR : ∀ w' d' r, Own w0 Im w' (d'.L ++ Fr) → DiskOk Im d' cnt → d'.db = d.db → d'.S = [] → (∀ n : Int, 0 ≤ n → n < cnt → d'.D n = d.D n) → R (.returned (.int .i64 r)) w') :
    Calls Try.prog 17 #[.pointer (some ⟨d.db, 0, none⟩)] w R := by
  apply vc17
  unfold Vc17
  refine ⟨fun e => (by cases e), fun _ => s30 h ⟨_, rfl, fun _ => ?_, fun e => (by cases e)⟩⟩
  refine ⟨fun w5 => ∃ plb, Own w0 Im w5 (({ d with plb := plb } : DiskG).L ++ Fr) ∧ plb.length = cnt * 512 ∧ ∀ n : Int, 0 ≤ n → n < cnt → (plb.drop (n.toNat * 512)).take 512 = d.D n, ?_, _, _, rfl, _, _, _, h.cell 0 rfl _, ?_⟩
  · rintro w5 ⟨plb, h5, hl5, hp5⟩
    refine ⟨_, _, rfl, _, _, _, h5.cell 0 rfl _, ?_⟩
    refine s32 (d := { d with plb := plb }) h5 fun w9 b5 h9 => ⟨rfl, _, h9.cell 0 rfl _, fun r12 _ => ⟨by rw [h9.cell 0 rfl _]; rfl, h9.frozen 0 rfl _, fun w13 e13 => ?_⟩⟩
    have h13 := h9.set 0 rfl (0 + 7) (.int .i64 r12)
    rw [← e13] at h13
    refine hR w13 { d with plb := plb, pend := none, S := [], mb := b5, M := [], clk := 0, flushes := r12 } _ h13 ?_ rfl rfl fun n h0 h1 => hp5 n h0 h1
    exact ⟨hl5, hd.lo, hd.hi, VecOk.nil, fun p hp => absurd hp List.not_mem_nil, List.nodup_nil, fun m => rfl⟩
  · refine ⟨fun m v w' => ∃ k plb, m = d.S.length - k ∧ v = (k : Nat) ∧ k ≤ d.S.length ∧ Own w0 Im w' (({ d with plb := plb } : DiskG).L ++ Fr) ∧ plb.length = cnt * 512 ∧
        ∀ n : Int, 0 ≤ n → n < cnt → (plb.drop (n.toNat * 512)).take 512 = (match lastW (d.S.take k) n with | some p => p.bs | none => (d.plb.drop (n.toNat * 512)).take 512),
      ⟨_, 0, d.plb, rfl, rfl, by omega, h, hd.len, fun n _ _ => rfl⟩, ?_⟩
    rintro m v w19 ⟨k, plb, rfl, rfl, hk, h19, hl, hp⟩
    refine ⟨fun hlt => ?_, fun hge => ?_⟩
    · have hk' : k < d.S.length := by omega
      have hd19 : DiskOk Im ({ d with plb := plb } : DiskG) cnt := ⟨hl, hd.lo, hd.hi, hd.vec, hd.ws, hd.nd, hd.map⟩
      obtain ⟨g, cap, cur, hpe⟩ : ∃ g cap cur, d.pend = some (g, cap, cur) := by
        cases hpe : d.pend with
        | none => have hv := hd.vec; rw [hpe] at hv; have : _ ≤ 0 := hv.2.1; omega
        | some y => exact ⟨_, _, _, rfl⟩
      · have hvec := hd.vec
        rw [hpe] at hvec
        have hgm : (g, Obj.cells cur.toArray 66 (0, 0)) ∈ (({ d with plb := plb } : DiskG).L ++ Fr) := by
          have : (g, Obj.cells cur.toArray 66 (0, 0)) ∈ ({ d with plb := plb } : DiskG).L := by unfold DiskG.L; simp [hpe, vecL]
          simp [this]
        obtain ⟨f1, f2⟩ := flat_get d.S hk'
        have c1 := vec_cell hvec (h19.mem hgm) f1
        have c2 := vec_cell hvec (h19.mem hgm) f2
        have et : ((k : Nat) : Int).toNat = k := by omega
        refine ⟨_, _, by rw [hpe]; rfl, by omega, hlt, d.S[k].n, d.S[k].a, 512, d.S[k].c, ?_, fun b24 w25 e24 e25 => ?_⟩
        · rw [et]
          intro j v hj
          rw [add_none, Nat.zero_add]
          match j with
          | 0 => simp at hj; subst hj; simpa using c1
          | 1 => simp at hj; subst hj; exact c2
          | j + 2 => simp at hj
        have h25 := h19.alloc' e24 e25
        refine ⟨h25.putOk 0 rfl (by simp), fun w26 e26 => ?_⟩
        have h26 : Own w0 Im w26 ((b24, .cells #[.int .i64 d.S[k].n, .slice d.S[k].a 512 d.S[k].c] 66 (0, 0)) :: (({ d with plb := plb } : DiskG).L ++ Fr)) := by rw [e26]; exact h25.put [.int .i64 d.S[k].n, .slice d.S[k].a 512 d.S[k].c] 0 0 rfl 0
        have h26 := h26.drew
        refine ⟨_, h26.cell 0 rfl _, _, _, _, h26.cell 0 rfl _, ?_⟩
        obtain ⟨hn0, hn1, hbs⟩ := hd.ws d.S[k] (List.getElem_mem hk')
        have h26' : Own w0 Im w26.drew (({ d with plb := plb } : DiskG).L ++ ((b24, .cells #[.int .i64 d.S[k].n, .slice d.S[k].a 512 d.S[k].c] 66 (0, 0)) :: Fr)) := h26.perm List.perm_middle.symm
        refine s31 (d := { d with plb := plb }) h26' hd19 hn0 hn1 fun cc => ⟨_, _, _, rfl, h26.cell 0 rfl _, ?_⟩
        obtain ⟨bb, oo, ea, hcl⟩ := hbs.cells h26
        rw [ea]
        have hbl := hbs.1
        have hfit : d.S[k].n.toNat * 512 + 512 ≤ plb.length := by rw [hl]; have : (d.S[k].n.toNat + 1) * 512 ≤ cnt * 512 := Nat.mul_le_mul_right _ (by omega); omega
        have hcp := run_copy_row (P := Try.prog) (ty := 3) w26.drew 33 33 5 d.pb (d.S[k].n.toNat * 512) 512 cc ⟨bb, oo, none⟩ 512 d.S[k].c (u8s plb).toArray 5 (u8s d.S[k].bs) Try.underlying33 (congrArg (Option.map (·.size)) Try.type5) (h26.get 2 rfl) (by simp [u8s]; omega) hcl (by simp [u8s]; omega) u8s_one
        refine ⟨_, _, hcp, fun r33 e33 => ?_⟩
        rw [wrap_id (by omega) (by omega)] at e33
        have h31 := (h26.setRow 2 rfl (cs' := ((u8s plb).toArray.toList.take (d.S[k].n.toNat * 512) ++ u8s d.S[k].bs ++ (u8s plb).toArray.toList.drop (d.S[k].n.toNat * 512 + (u8s d.S[k].bs).length)).toArray)).tail rfl
        have ecs : ((u8s plb).toArray.toList.take (d.S[k].n.toNat * 512) ++ u8s d.S[k].bs ++ (u8s plb).toArray.toList.drop (d.S[k].n.toNat * 512 + (u8s d.S[k].bs).length)) = u8s (plb.take (d.S[k].n.toNat * 512) ++ d.S[k].bs ++ plb.drop (d.S[k].n.toNat * 512 + 512)) := by
          have e512 : (u8s d.S[k].bs).length = 512 := by simp [u8s]; omega
          rw [e512]
          simp [u8s]
        rw [ecs] at h31
        have elen : (plb.take (d.S[k].n.toNat * 512) ++ d.S[k].bs ++ plb.drop (d.S[k].n.toNat * 512 + 512)).length = plb.length := by
          simp only [List.length_append, List.length_take, List.length_drop]; omega
        refine ⟨_, by omega, k + 1, plb.take (d.S[k].n.toNat * 512) ++ d.S[k].bs ++ plb.drop (d.S[k].n.toNat * 512 + 512), rfl, by omega, by omega, ?_, by rw [elen]; exact hl, fun n h0 h1 => ?_⟩
        · rw [ecs]
          have ec : ({ d with plb := plb.take (d.S[k].n.toNat * 512) ++ d.S[k].bs ++ plb.drop (d.S[k].n.toNat * 512 + 512) } : DiskG).cells = ({ d with plb := plb } : DiskG).cells := by
            unfold DiskG.cells; simp only [elen]
          unfold DiskG.L
          rw [ec]
          exact h31
        · rw [sector_put hfit hbl.symm, List.take_succ_eq_append_getElem hk', lastW_snoc]
          by_cases e : n = d.S[k].n
          · rw [if_pos (by rw [e]), if_pos e.symm]
          · rw [if_neg (by omega), if_neg (fun h => e h.symm)]; exact hp n h0 h1
    · have e : k = d.S.length := by omega
      subst e
      refine ⟨plb, h19, hl, fun n h0 h1 => ?_⟩
      have := hp n h0 h1
      rw [List.take_length] at this
      exact this

/-- (*Disk).Crash of nothing. -/
theorem s18 (h : Own w0 Im w (d.L ++ Fr)) (hd : DiskOk Im d cnt) (hS : d.S = [])
    (hR : ∀ w' d', Own w0 Im w' (d'.L ++ Fr) → DiskOk Im d' cnt → d'.db = d.db → (∀ n, d'.D n = d.D n) → R (.returned (.int .i64 0)) w') :
    Calls Try.prog 18 #[.pointer (some ⟨d.db, 0, none⟩), .slice none 0 0] w R := by
  apply vc18
  unfold Vc18
  refine ⟨fun e => (by cases e), fun _ => ⟨fun w' => Own w0 Im w' (d.L ++ Fr), fun w3 h3 => ?_, fun m v w' => v = 0 ∧ Own w0 Im w' (d.L ++ Fr), ⟨0, rfl, h⟩, fun m v w44 ⟨hv, h44⟩ => ⟨fun e => absurd e (by omega), fun _ => h44⟩⟩⟩
  refine ⟨fun w' => Own w0 Im w' (d.L ++ Fr), fun w4 h4 => ?_, fun m v w' => v = 0 ∧ Own w0 Im w' (d.L ++ Fr), ⟨0, rfl, h3⟩, fun m v w13 ⟨hv, h13⟩ => ⟨fun e => absurd e (by omega), fun _ => h13⟩⟩
  refine s32 h4 fun w5 b5 h5 => ⟨rfl, _, _, rfl, by rw [h5.cell 0 rfl _]; rfl, h5.frozen 0 rfl _, fun w9 e9 => ?_⟩
  have h9 := h5.set 0 rfl (0 + 3) (.bool false)
  rw [← e9] at h9
  refine ⟨by rw [h9.cell 0 rfl _]; rfl, h9.frozen 0 rfl _, fun w10 e10 => ?_⟩
  have h10 := h9.set 0 rfl (0 + 4) (.int .i64 0)
  rw [← e10] at h10
  refine hR w10 { d with pend := none, S := [], mb := b5, M := [], clk := 0, left := 0 } h10 ⟨hd.len, hd.lo, hd.hi, VecOk.nil, fun p hp => absurd hp List.not_mem_nil, List.nodup_nil, fun m => rfl⟩ rfl fun n => ?_
  unfold DiskG.D
  rw [hS]
end
end Go.Proofs.Ytgkcckghmlccnaa
