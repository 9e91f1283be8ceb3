/- A part of the proof: lemmas. -/
import Derived.Test.YtdhdbdpemejpjaaVcTlbE
namespace Go.Proofs.Ytdhdbdpemejpjaa
open Go Go.Vc
set_option maxRecDepth 100000
set_option linter.unusedVariables false

/-- Is nobody left? -/
def allOff (s : Shoot) : Bool := !(s.left 0 || (s.left 1 || (s.left 2 || (s.left 3 || (s.left 4 || (s.left 5 || (s.left 6 || s.left 7)))))))
theorem allOff_iff (s : Shoot) : allOff s = true ↔ ∀ i, i < 8 → s.left i = false := by
  unfold allOff
  simp only [Bool.not_eq_true', Bool.or_eq_false_iff]
  constructor
  · rintro ⟨h0, h1, h2, h3, h4, h5, h6, h7⟩ i hi
    match i, hi with
    | 0, _ => exact h0 | 1, _ => exact h1 | 2, _ => exact h2 | 3, _ => exact h3 | 4, _ => exact h4 | 5, _ => exact h5 | 6, _ => exact h6 | 7, _ => exact h7
  · intro h
    exact ⟨h 0 (by omega), h 1 (by omega), h 2 (by omega), h 3 (by omega), h 4 (by omega), h 5 (by omega), h 6 (by omega), h 7 (by omega)⟩
def clearSh (s : Shoot) (h : Nat) : Shoot := { s with left := fun j => if j = h then false else s.left j }
def stepSh (h : Nat) (o : Option Shoot) : Option Shoot := o.bind fun s => if allOff (clearSh s h) = true then none else some (clearSh s h)
def spaceOf (sh : Int → Option Shoot) (id : Int) : Int := ((sh id).map (·.space)).getD 0
/-- What a hart keeps once these are handled. -/
def handleE (E : List (Key × Int)) (sh : Int → Option Shoot) (ps : List Int) : List (Key × Int) := ps.foldl (fun E id => keepE E (spaceOf sh id)) E
def handleSh (sh : Int → Option Shoot) (h : Nat) (ps : List Int) : Int → Option Shoot := fun id => if id ∈ ps then stepSh h (sh id) else sh id
def arr8 (s : Shoot) : Array Value := #[.bool (s.left 0), .bool (s.left 1), .bool (s.left 2), .bool (s.left 3), .bool (s.left 4), .bool (s.left 5), .bool (s.left 6), .bool (s.left 7)]
theorem arr_guard (s : Shoot) {x y : Operand} (w : World) : (eqGuard .eql 62 x y (.agg (arr8 s)) (.agg #[.bool false, .bool false, .bool false, .bool false, .bool false, .bool false, .bool false, .bool false])).run Try.prog w = .ok () w := by
  unfold eqGuard arr8; simp
theorem arr_eq (s : Shoot) (w : World) : (binOp .eql 62 (.agg (arr8 s)) (.agg #[.bool false, .bool false, .bool false, .bool false, .bool false, .bool false, .bool false, .bool false])).run Try.prog w = .ok (.bool (allOff s)) w := by
  have h := arr_equal (s.left 0) (s.left 1) (s.left 2) (s.left 3) (s.left 4) (s.left 5) (s.left 6) (s.left 7) w
  unfold binOp
  simp only [arr8]
  rw [Sem.run_bind, h]
  rfl

theorem i64s_flat (ps : List Int) : ps.flatMap (fun n : Int => [Value.int .i64 n]) = i64s ps := by
  unfold i64s
  induction ps with
  | nil => rfl
  | cons a l ih => simp [ih]
section
variable {w0 w : World} {Im : Mem} {Fr L : List (Nat × Obj)} {t : TlbG} {R : Ending → World → Prop}

/-- (*Tlb).Handle -/
theorem s13 {h : Int} (ho : Own w0 Im w (t.L ++ Fr)) (ht : TlbOk t)
    (hno : ¬ (0 ≤ h ∧ h < t.Es.length) → R (.returned (.int .i64 0)) w)
    (hR : ∀ w' t' ps, 0 ≤ h → h < t.Es.length → PendOf t.sh h.toNat ps → Own w0 Im w' (t'.L ++ Fr) → TlbOk t' → Turn t t' (t.Es.set h.toNat (handleE (hartE t.Es h) t.sh ps)) t.begun (handleSh t.sh h.toNat ps) → R (.returned (.int .i64 (ps.length : Nat))) w') :
    Calls Try.prog 13 #[.pointer (some ⟨t.tb, 0, none⟩), .int .i64 h] w R := by
  apply vc13
  unfold Vc13
  refine s11 ho ht (fun hn => ⟨_, _, _, rfl, fun m v w' => v = 0 ∧ w' = w, ⟨0, rfl, rfl⟩, fun m v w' ⟨hv, hw⟩ => ⟨fun e => (by rw [hv] at e; exact absurd e (by decide)), fun _ => by subst hw; exact hno hn⟩⟩) fun w4 x ps h0 h1 h4 hx hps hpl => ⟨_, _, _, rfl, ?_⟩
  have hEl := Es_len (t := t)
  have hhi := ht.hi
  have hl : h.toNat < t.H.length := by omega
  obtain ⟨hlE, hEat⟩ := hartE_at h0 h1
  have hpn : ps.Nodup := hps.up.imp fun h => (by omega)
  refine ⟨fun m v w' => ∃ (k : Nat) (t' : TlbG), m = ps.length - k ∧ v = k ∧ k ≤ ps.length ∧ Own w0 Im w' (vecL 3 x ++ (t'.L ++ Fr)) ∧ TlbOk t' ∧ Turn t t' (t.Es.set h.toNat (handleE (hartE t.Es h) t.sh (ps.take k))) t.begun (handleSh t.sh h.toNat (ps.take k)), ⟨_, 0, t, rfl, rfl, by omega, h4, ht, ?_⟩, ?_⟩
  · have e1 : t.Es.set h.toNat (handleE (hartE t.Es h) t.sh (ps.take 0)) = t.Es := by
      rw [hEat]; exact set_self (List.getElem?_eq_getElem hlE)
    have e2 : handleSh t.sh h.toNat (ps.take 0) = t.sh := by funext id; simp [handleSh]
    rw [e1, e2]; exact Turn.refl t
  rintro m v w8 ⟨k, t', rfl, rfl, hk, h8, ht', htt⟩
  refine ⟨fun hlt => ?_, fun hge => ?_⟩
  · have hk' : k < ps.length := by omega
    have ek : ((k : Nat) : Int).toNat = k := by omega
    obtain ⟨s, hs, hsl⟩ := (hps.iff ps[k]).1 (List.getElem_mem hk')
    have hnt : ps[k] ∉ ps.take k := fun hm => by
      obtain ⟨q, hq, e⟩ := List.mem_iff_getElem.1 hm
      simp only [List.getElem_take] at e
      have hq' : q < k := by simp at hq; omega
      have := nodup_inj hpn (i := q) (j := k) (by omega) hk' e
      omega
    have hs' : t'.sh ps[k] = some s := by rw [htt.sh]; unfold handleSh; rw [if_neg hnt]; exact hs
    have hl' : h.toNat < t'.H.length := by
      have := congrArg List.length htt.Es
      rw [Es_len, List.length_set, Es_len] at this; omega
    obtain ⟨b, eb, cb⟩ : ∃ b, vecA x = some ⟨b, 0, none⟩ ∧ w8.cell? ⟨b, k, none⟩ = some (.int .i64 ps[k]) := by
      have hx2 : VecE (fun n : Int => [Value.int .i64 n]) 1 x ps := by
        have e := i64s_flat ps
        unfold VecE; rw [e]; exact hx
      exact vecE_cell1 (f := fun n : Int => Value.int .i64 n) (e := 3) h8 (fun p hp => List.mem_append_left _ hp) hx2 hk'
    have h8p := h8.perm (perm_l (vecL 3 x) t'.L Fr)
    have hlk := run_shoot h8p (by simp [TlbG.L]) ht' ps[k] false
    rw [hs'] at hlk
    refine ⟨_, _, eb, by omega, hlt, ps[k], by rw [ek, Nat.zero_add]; exact cb, _, _, by rw [← htt.tb], _, h8p.cell 0 rfl _, _, _, _, _, _, _, _, _, _, hlk, fun b24 w25 e24 e25 => ?_⟩
    have h25 := h8p.alloc' e24 e25
    refine ⟨h25.putOk 0 rfl (by simp), fun w26 e26 => ?_⟩
    have h26 : Own w0 Im w26 ((b24, .cells (shC s).toArray 64 (0, 0)) :: (t'.L ++ (vecL 3 x ++ Fr))) := by rw [e26]; exact h25.putAll (k := 0) rfl (shC s) rfl
    have h26 := h26.drew
    obtain ⟨hb, ea, c0, c1⟩ := hart_at (h26.tail rfl) ht' hl'
    have h26p := h26.perm (List.perm_middle (l₁ := t'.L) (a := (b24, Obj.cells (shC s).toArray 64 (0, 0)))).symm
    have hhl : h < ((t'.H.length : Nat) : Int) := by omega
    refine ⟨_, _, _, h26.cell 1 rfl _, _, _, ea, h0, hhl, s.space, by rw [h26.cell 0 rfl]; rfl, ?_⟩
    rw [Nat.zero_add]
    refine forget_at h26p ht' hl' s.space ea fun w32 t2 h32 ht2 htt2 eob eOM eoclk ecells => ⟨_, rfl, ?_⟩
    have h32p := h32.perm (List.perm_middle (l₁ := t2.L) (a := (b24, Obj.cells (shC s).toArray 64 (0, 0))))
    have hx8 : h.toNat < 8 := by have := ht'.hi; omega
    have htb2 : t2.tb = t'.tb := htt2.tb
    have hcell1 : w32.cell? ⟨t'.tb, 0 + 1, none⟩ = some (.slice (vecA t'.hv) t'.H.length (vecC t'.hv)) := by
      rw [← htb2, h32p.cell 1 rfl, ecells]; rfl
    refine ⟨hcell1, h0, by show h < ((8 : Nat) : Int); omega, by rw [h32p.cell 0 rfl, List.getElem?_toArray]; have := shC_left s hx8; rw [show 0 + 1 + h.toNat * 1 = 1 + h.toNat by omega, this]; rfl, h32p.frozen 0 rfl _, fun w33 e33 => ?_⟩
    have h33 := h32p.set 0 rfl (0 + 1 + h.toNat * 1) (.bool false)
    rw [← e33] at h33
    have e1 : (shC s).toArray.setIfInBounds (0 + 1 + h.toNat * 1) (.bool false) = (shC (clearSh s h.toNat)).toArray := by
      rw [show 0 + 1 + h.toNat * 1 = 1 + h.toNat by omega, shC_set _ hx8]; rfl
    rw [e1] at h33
    have h33 : Own w0 Im w33 ((b24, .cells (shC (clearSh s h.toNat)).toArray 64 (0, 0)) :: (t2.L ++ (vecL 3 x ++ Fr))) := h33
    -- what both ways come to
    have e0 : 0 ≤ h := h0
    have hEs2 : t2.Es = t.Es.set h.toNat (handleE (hartE t.Es h) t.sh (ps.take (k + 1))) := by
      rw [htt2.Es, htt.Es, List.set_set]
      congr 1
      have hE' : t'.H[h.toNat].E = handleE (hartE t.Es h) t.sh (ps.take k) := by
        have h2 := htt.Es
        have h3 : t'.Es[h.toNat]? = some (handleE (hartE t.Es h) t.sh (ps.take k)) := by
          rw [h2, List.getElem?_set_self hlE]
        have h4 : t'.Es[h.toNat]? = some t'.H[h.toNat].E := by
          unfold TlbG.Es; rw [List.getElem?_map, List.getElem?_eq_getElem hl']; rfl
        rw [h4] at h3; exact Option.some.inj h3
      rw [hE', List.take_succ_eq_append_getElem hk']
      unfold handleE
      rw [List.foldl_append]
      simp only [List.foldl_cons, List.foldl_nil]
      have : spaceOf t.sh ps[k] = s.space := by unfold spaceOf; rw [hs]; rfl
      rw [this]
    have hshk : ∀ id, handleSh t.sh h.toNat (ps.take (k + 1)) id = if id = ps[k] then stepSh h.toNat (some s) else t'.sh id := fun id => by
      rw [htt.sh]
      unfold handleSh
      have hmem : id ∈ ps.take (k + 1) ↔ id ∈ ps.take k ∨ id = ps[k] := by
        rw [List.take_succ_eq_append_getElem hk', List.mem_append, List.mem_singleton]
      by_cases hi : id = ps[k]
      · rw [if_pos hi, if_pos (hmem.2 (.inr hi)), hi, hs]
      · rw [if_neg hi]
        by_cases hi2 : id ∈ ps.take k
        · rw [if_pos (hmem.2 (.inl hi2)), if_pos hi2]
        · rw [if_neg (fun h => (hmem.1 h).elim hi2 hi), if_neg hi2]
    have hnext : ∀ (w' : World) (OM : List (Ent Int)) (oclk : Nat), Own w0 Im w' ((b24, .cells (shC (clearSh s h.toNat)).toArray 64 (0, 0)) :: (({ t2 with OM := OM, oclk := oclk, sh := handleSh t.sh h.toNat (ps.take (k + 1)) } : TlbG).L ++ (vecL 3 x ++ Fr))) → (OM.map (·.1)).Nodup → Born OM oclk → (∀ id, aget OM id = (handleSh t.sh h.toNat (ps.take (k + 1)) id).map shV) →
        ∀ r, r = IntKind.wrap .i64 (((k : Nat) : Int) + 1) → ∃ m46, m46 < ps.length - k ∧ ∃ (k : Nat) (t' : TlbG), m46 = ps.length - k ∧ r = k ∧ k ≤ ps.length ∧ Own w0 Im w' (vecL 3 x ++ (t'.L ++ Fr)) ∧ TlbOk t' ∧ Turn t t' (t.Es.set h.toNat (handleE (hartE t.Es h) t.sh (ps.take k))) t.begun (handleSh t.sh h.toNat (ps.take k)) := by
      intro w' OM oclk ho hnd hbo hag r hr
      rw [wrap_id (by omega) (by omega)] at hr
      refine ⟨_, by omega, k + 1, { t2 with OM := OM, oclk := oclk, sh := handleSh t.sh h.toNat (ps.take (k + 1)) }, rfl, by omega, by omega, (ho.tail rfl).perm (perm_l _ _ _), ⟨ht2.hv, ht2.ok, ht2.room, ht2.lo, ht2.hi, ht2.slo, ht2.shi, hnd, hbo, hag, fun id s2 hs2 => ?_, ht2.blo, ht2.bhi⟩, ⟨htt2.tb.trans htt.tb, htt2.size.trans htt.size, hEs2, htt2.begun.trans htt.begun, rfl⟩⟩
      have hs2 : handleSh t.sh h.toNat (ps.take (k + 1)) id = some s2 := hs2
      have hbg : t2.begun = t.begun := htt2.begun.trans htt.begun
      show 1 ≤ id ∧ id ≤ t2.begun
      rw [hbg]
      cases hq : t.sh id with
      | none =>
        unfold handleSh at hs2
        rw [hq] at hs2
        split at hs2
        · cases hs2
        · cases hs2
      | some s3 => exact ht.dom id s3 hq
    have hL2 : ∀ (OM : List (Ent Int)) (oclk : Nat), ({ t2 with OM := OM, oclk := oclk, sh := handleSh t.sh h.toNat (ps.take (k + 1)) } : TlbG).L = (t2.tb, .cells t2.cells 56 (0, 0)) :: (t2.ob, mapObj (Vc.encI .i64) OM oclk) :: (vecL 59 t2.hv ++ t2.H.flatMap HartG.L) := fun OM oclk => rfl
    have hsh2 : t2.sh = t'.sh := htt2.sh
    have hobc : w33.cell? ⟨t'.tb, 0 + 3, none⟩ = some (.map (some t2.ob)) := by rw [← htb2, h33.cell 1 rfl]; rfl
    refine ⟨_, _, _, _, _, _, _, _, fun j v hj => ?_, allOff (clearSh s h.toNat), fun w' => arr_guard _ w', fun w' => arr_eq _ w', fun hq => ?_, fun hq => ?_⟩
    · rw [add_none, h33.cell 0 rfl, List.getElem?_toArray]
      rw [Nat.zero_add]
      have : (shC (clearSh s h.toNat))[1 + j]? = (arr8 (clearSh s h.toNat))[j]? := by
        rw [Nat.add_comm]
        show (Value.int .i64 _ :: (arr8 (clearSh s h.toNat)).toList)[j + 1]? = _
        rw [List.getElem?_cons_succ, Array.getElem?_toList]
      rw [this]
      unfold arr8
      rw [List.getElem?_toArray]
      exact hj
    · refine ⟨_, hobc, ?_⟩
      have hdl := run_delete (P := Try.prog) (t := 54) (u := 3) (ty := 0) (enc := Vc.encI .i64) Try.underlying54 (keyLaw_int Try.underlying3) ht2.omnd (h33.get 2 rfl) ps[k]
      refine ⟨_, hdl, ?_⟩
      have h44 := h33.setObj 2 rfl (o' := mapObj (Vc.encI .i64) (adel t2.OM ps[k]) t2.oclk)
      refine hnext _ (adel t2.OM ps[k]) t2.oclk h44 (nodup_del ht2.omnd) (ht2.oborn.del _) fun id => ?_
      rw [hshk, aget_del, ht2.omap, hsh2]
      by_cases e : id = ps[k]
      · rw [if_pos e, if_pos e]; unfold stepSh; simp [hq]
      · rw [if_neg e, if_neg e]
    · have h33 := h33.drew
      refine ⟨_, hobc, _, _, _, _, _, _, _, _, _, h33.cellsAt 0 rfl (vs := shC (clearSh s h.toNat)) (fun j v hj => by rw [Nat.zero_add, List.getElem?_toArray]; exact hj), ?_⟩
      have hup := run_mapUpdate (P := Try.prog) (t := 54) (K := 3) (E := 64) (enc := Vc.encI .i64) Try.underlying54 (keyLaw_int Try.underlying3) ht2.omnd (h33.get 2 rfl) ps[k] (shV (clearSh s h.toNat))
      refine ⟨_, hup, ?_⟩
      have h57 := h33.setObj 2 rfl (o' := mapObj (Vc.encI .i64) (aput t2.OM t2.oclk ps[k] (shV (clearSh s h.toNat))).1 (aput t2.OM t2.oclk ps[k] (shV (clearSh s h.toNat))).2)
      refine hnext _ _ _ h57 (nodup_put ht2.omnd) (ht2.oborn.put _ _) fun id => ?_
      rw [hshk, aget_put, ht2.omap, hsh2]
      by_cases e : id = ps[k]
      · rw [if_pos e, if_pos e]; unfold stepSh; simp [hq]
      · rw [if_neg e, if_neg e]
  · have e : k = ps.length := by omega
    subst e
    rw [List.take_length] at htt
    exact hR w8 t' ps h0 h1 hps (h8.sub (List.sublist_append_right _ _)) ht' htt
end
end Go.Proofs.Ytdhdbdpemejpjaa
