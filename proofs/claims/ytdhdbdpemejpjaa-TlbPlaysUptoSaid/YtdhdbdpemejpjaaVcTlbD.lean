/- A part of the proof: lemmas. -/
import Derived.Test.YtdhdbdpemejpjaaVcTlbC
namespace Go.Proofs.Ytdhdbdpemejpjaa
open Go Go.Vc
set_option maxRecDepth 100000
set_option linter.unusedVariables false

def optC : Option HartG → List Value
  | none => [.map none, .slice none 0 0]
  | some x => hartC x
theorem optC_len (x : Option HartG) : (optC x).length = 2 := by cases x <;> rfl
def newH (mb : Nat) : HartG := { mb := mb, M := [], clk := 0, ov := none, E := [] }
theorem newH_ok (mb : Nat) : HartOk (newH mb) := ⟨VecE.nil, List.nodup_nil, Born.nil, fun _ => rfl, List.nodup_nil, by simp [newH]⟩
theorem made_harts (n : Nat) : madeCells (Value.agg #[.map none, .slice none 0 0]).cells (n * 2) = ((List.replicate n (none : Option HartG)).flatMap optC).toArray := by
  apply Array.ext
  · have e1 : (madeCells (Value.agg #[.map none, .slice none 0 0]).cells (n * 2)).size = n * 2 := by simp [madeCells]
    have e2 := flat_len optC optC_len (List.replicate n (none : Option HartG))
    rw [List.length_replicate] at e2
    exact e1.trans (by rw [List.size_toArray]; exact e2.symm)
  · intro i h1 h2
    have hi : i < n * 2 := by simpa [madeCells] using h1
    have hq : i / 2 < n := by omega
    have e1 := flatN optC optC_len (List.replicate n (none : Option HartG)) (i := i / 2) (by simpa using hq) (i % 2) (by omega)
    have e2 : i / 2 * 2 + i % 2 = i := by omega
    rw [e2] at e1
    have e3 : ((List.replicate n (none : Option HartG)).flatMap optC)[i]? = some ((List.replicate n (none : Option HartG)).flatMap optC)[i] := List.getElem?_eq_getElem _
    rw [e3] at e1
    simp only [List.getElem_replicate] at e1
    have e4 : (madeCells (Value.agg #[.map none, .slice none 0 0]).cells (n * 2))[i] = (#[Value.map none, Value.slice none 0 0] : Array Value)[i % 2]! := by
      simp [madeCells, Value.cells]
    rw [e4]
    show _ = ((List.replicate n (none : Option HartG)).flatMap optC)[i]
    rcases Nat.mod_two_eq_zero_or_one i with h | h <;> (rw [h] at e1 ⊢; simp [optC] at e1; rw [e1]; rfl)

section
variable {w0 w : World} {Im : Mem} {Fr L : List (Nat × Obj)} {t : TlbG} {R : Ending → World → Prop}

/-- tlb.New -/
theorem s7 {harts size : Int} (h : Own w0 Im w Fr)
    (hno : ¬ (1 ≤ harts ∧ harts ≤ 8 ∧ 1 ≤ size ∧ size ≤ 64) → R (.returned (.tuple #[.pointer none, .int .i64 1])) w)
    (hR : ∀ w' t, 1 ≤ harts → harts ≤ 8 → 1 ≤ size → size ≤ 64 → Own w0 Im w' (t.L ++ Fr) → TlbOk t → t.size = size → t.Es = List.replicate harts.toNat [] → t.begun = 0 → t.sh = (fun _ => none) → R (.returned (.tuple #[.pointer (some ⟨t.tb, 0, none⟩), .int .i64 0])) w') :
    Calls Try.prog 7 #[.int .i64 harts, .int .i64 size] w R := by
  apply vc7
  unfold Vc7
  refine ⟨fun e => hno (by omega), fun h1 => ⟨fun e => hno (by omega), fun h2 => ⟨fun e => hno (by omega), fun h3 => ⟨fun e => hno (by omega), fun h4 => ?_⟩⟩⟩⟩
  obtain ⟨w3, hm3, o3⟩ := own_make (t := 53) (e := 59) (bytes := 32) (size := 2) (z := .agg #[.map none, .slice none 0 0]) Try.underlying53 Try.type59 rfl rfl rfl h (kl := .i64) (kc := .i64) (l := harts) (c := harts) (by omega) (Int.le_refl _) (by omega) (by omega)
  rw [made_harts] at o3
  generalize w.heap.size = g at hm3 o3
  refine ⟨_, _, _, w3, hm3, fun b5 w6 e5 e6 b7 w8 e7 e8 => ?_⟩
  have o6 := o3.alloc' e5 e6
  have o8 := o6.alloc' e7 e8
  generalize hn : harts.toNat = n at *
  have hn1 : 1 ≤ n := by omega
  have hn8 : n ≤ 8 := by omega
  let cellsT : Array Value := #[.int .i64 size, .slice (some ⟨g, 0, none⟩) n n, .int .i64 0, .map (some b5)]
  let ob0 : Nat × Obj := (b5, mapObj (Vc.encI .i64) ([] : List (Ent Int)) 0)
  refine ⟨_, _, _, o8.cell 0 rfl _, fun m v w' => ∃ (j : Nat) (hv : VecB) (Hs : List HartG), m = n - j ∧ v = j ∧ j ≤ n ∧ Hs.length = j ∧ vecA hv = some ⟨g, 0, none⟩ ∧ vecC hv = n ∧ (∀ x ∈ Hs, HartOk x ∧ x.E = []) ∧ Own w0 Im w' ((b7, .cells cellsT 56 (0, 0)) :: ob0 :: (vecL 59 hv ++ (Hs.flatMap HartG.L ++ Fr))) ∧ VecE optC 2 hv (Hs.map some ++ List.replicate (n - j) none), ?_, ?_⟩
  · refine ⟨_, 0, some (g, n, (List.replicate n (none : Option HartG)).flatMap optC), [], rfl, rfl, by omega, rfl, rfl, rfl, fun _ h => (by cases h), o8, ?_⟩
    have hl := flat_len optC optC_len (List.replicate n (none : Option HartG))
    simp only [List.length_replicate] at hl
    refine ⟨by simp only [List.map_nil, List.nil_append, Nat.sub_zero]; simpa using hl, by simp [vecC], by show n ≤ maxLen; simp only [maxLen]; omega, hl, ?_⟩
    simp only [List.map_nil, List.nil_append, Nat.sub_zero, List.length_replicate]
    rw [← hl, List.take_length]
  · rintro m v w12 ⟨j, hv, Hs, rfl, rfl, hj, hHs, ea, ec, hok, o12, hx⟩
    refine ⟨fun hlt => ?_, fun hge => ?_⟩
    · have hj' : j < n := by omega
      have ej : ((j : Nat) : Int).toNat = j := by omega
      refine ⟨_, _, _, o12.cell 0 rfl _, fun b14 w15 e14 e15 => ⟨_, _, rfl, by omega, hlt, ?_⟩⟩
      have o15 := o12.alloc' e14 e15
      have pv : ∀ (hv : VecB) (o : Nat × Obj), (o :: (b7, Obj.cells cellsT 56 (0, 0)) :: ob0 :: (vecL 59 hv ++ (Hs.flatMap HartG.L ++ Fr))).Perm (vecL 59 hv ++ ([o, (b7, Obj.cells cellsT 56 (0, 0)), ob0] ++ (Hs.flatMap HartG.L ++ Fr))) := fun hv o => perm_l [_, _, _] (vecL 59 hv) _
      have hlx : (Hs.map some ++ List.replicate (n - j) (none : Option HartG)).length = n := by simp; omega
      have hjl : j < (Hs.map some ++ List.replicate (n - j) (none : Option HartG)).length := by omega
      have hget : (Hs.map some ++ List.replicate (n - j) (none : Option HartG))[j] = none := by
        rw [List.getElem_append_right (by simp; omega)]; simp
      obtain ⟨g2, eg2, c1, c2, hv', ea', ec', o18, hx'⟩ := vecE_set (f := optC) (n := 2) optC_len (o15.perm (pv hv _)) hx hjl (k := 0) (by omega) (v := .map (some b14)) (a := some (newH b14)) (by rw [hget]; rfl)
      rw [ea] at eg2
      have hg : g = g2 := by simpa using eg2
      subst hg
      rw [ej, Nat.zero_add]
      refine ⟨c1, c2, fun w18 e18 r19 e19 => ?_⟩
      rw [wrap_id (by omega) (by omega)] at e19
      rw [Nat.add_zero, ← e18] at o18
      refine ⟨_, by omega, j + 1, hv', Hs ++ [newH b14], rfl, by omega, by omega, by simp [hHs], ea'.trans ea, ec'.trans ec, fun x hx => ?_, ?_, ?_⟩
      · rcases List.mem_append.1 hx with hx | hx
        · exact hok x hx
        · simp at hx; subst hx; exact ⟨newH_ok b14, rfl⟩
      · have := o18.perm (pv hv' _).symm
        have e1 : ((Hs ++ [newH b14]).flatMap HartG.L ++ Fr) = Hs.flatMap HartG.L ++ ((b14, mapObj keyE [] 0) :: Fr) := by simp [HartG.L, newH, vecL]
        rw [e1]
        refine this.perm ?_
        have e2 : (b14, Obj.map #[] 0) :: (b7, Obj.cells cellsT 56 (0, 0)) :: ob0 :: (vecL 59 hv' ++ (Hs.flatMap HartG.L ++ Fr)) = (b14, mapObj keyE [] 0) :: (((b7, Obj.cells cellsT 56 (0, 0)) :: ob0 :: (vecL 59 hv' ++ Hs.flatMap HartG.L)) ++ Fr) := by simp [mapObj]
        rw [e2]
        refine List.perm_middle.symm.trans ?_
        have e3 : ((b7, Obj.cells cellsT 56 (0, 0)) :: ob0 :: (vecL 59 hv' ++ Hs.flatMap HartG.L)) ++ (b14, mapObj keyE [] 0) :: Fr = (b7, Obj.cells cellsT 56 (0, 0)) :: ob0 :: (vecL 59 hv' ++ (Hs.flatMap HartG.L ++ (b14, mapObj keyE [] 0) :: Fr)) := by simp
        rw [e3]
      · have e1 : (Hs.map some ++ List.replicate (n - j) (none : Option HartG)).set j (some (newH b14)) = (Hs ++ [newH b14]).map some ++ List.replicate (n - (j + 1)) none := by
          have e2 : n - j = (n - (j + 1)) + 1 := by omega
          rw [e2, List.replicate_succ, List.set_append_right _ _ (by simp; omega)]
          have e3 : j - (Hs.map some).length = 0 := by simp; omega
          rw [e3]; simp
        rw [e1] at hx'; exact hx'
    · have e : j = n := by omega
      subst e
      rw [Nat.sub_self, List.replicate_zero, List.append_nil] at hx
      have hx2 : VecE hartC 2 hv Hs := by
        have e1 : (Hs.map some).flatMap optC = Hs.flatMap hartC := by rw [List.flatMap_map]; rfl
        unfold VecE at hx ⊢
        rw [e1, List.length_map] at hx
        exact hx
      have hEs : Hs.map (·.E) = List.replicate j [] := by
        rw [← hHs]
        exact List.eq_replicate_iff.2 ⟨by simp, fun b hb => by obtain ⟨x, hx, rfl⟩ := List.mem_map.1 hb; exact (hok x hx).2⟩
      refine hR w12 { tb := b7, size := size, hv := hv, H := Hs, begun := 0, ob := b5, OM := [], oclk := 0, sh := fun _ => none } (by omega) (by omega) (by omega) (by omega) ?_ ?_ rfl hEs rfl rfl
      · unfold TlbG.L TlbG.cells
        simp only [ea, ec, hHs]
        have : ((b7, Obj.cells cellsT 56 (0, 0)) :: ob0 :: (vecL 59 hv ++ (Hs.flatMap HartG.L ++ Fr))) = (b7, Obj.cells cellsT 56 (0, 0)) :: ob0 :: (vecL 59 hv ++ Hs.flatMap HartG.L) ++ Fr := by simp
        rw [this] at o12
        exact o12
      · exact ⟨hx2, fun x hx => (hok x hx).1, fun x hx => by rw [(hok x hx).2]; show ((0 : Nat) : Int) ≤ size; omega, by show 1 ≤ Hs.length; omega, by show Hs.length ≤ 8; omega, by show 1 ≤ size; omega, by show size ≤ 64; omega, List.nodup_nil, Born.nil, fun _ => rfl, fun _ _ h => (by cases h), Int.le_refl _, by show (0 : Int) ≤ _; omega⟩

/-- May these be the targets? -/
def okTs (n : Nat) (ts : List Int) : Prop := (∀ x ∈ ts, 0 ≤ x ∧ x < n) ∧ ts.Nodup
instance (n : Nat) (ts : List Int) : Decidable (okTs n ts) := by unfold okTs; exact inferInstance
/-- Behind a start. -/
def startSh (sh : Int → Option Shoot) (id : Int) (space : Int) (ts : List Int) : Int → Option Shoot := fun i => if i = id ∧ ts ≠ [] then some ⟨space, fun j => decide ((j : Int) ∈ ts)⟩ else sh i
/-- Numbers that stand in memory, whatever else turns. -/
def Reads (w0 : World) (Im : Mem) (a : Option Addr) (ts : List Int) (Fr : List (Nat × Obj)) : Prop := ∀ w' A, Own w0 Im w' (A ++ Fr) → ∀ j x, ts[j]? = some x → ∃ b o, a = some ⟨b, o, none⟩ ∧ w'.cell? ⟨b, o + j, none⟩ = some (.int .i64 x)

/-- (*Tlb).Start -/
theorem s10 {space : Int} {a : Option Addr} {c : Nat} {ts : List Int} (h : Own w0 Im w (t.L ++ Fr)) (ht : TlbOk t) (hts : Reads w0 Im a ts Fr) (hlen : ts.length ≤ 4611686018427387904)
    (hbad : ¬ okTs t.Es.length ts → ∀ w', Own w0 Im w' (t.L ++ Fr) → R (.returned (.tuple #[.int .i64 0, .int .i64 1])) w')
    (hfull : okTs t.Es.length ts → 2147483647 ≤ t.begun → ∀ w', Own w0 Im w' (t.L ++ Fr) → R (.returned (.tuple #[.int .i64 0, .int .i64 2])) w')
    (hR : ∀ w' t', okTs t.Es.length ts → t.begun < 2147483647 → Own w0 Im w' (t'.L ++ Fr) → TlbOk t' → Turn t t' t.Es (t.begun + 1) (startSh t.sh (t.begun + 1) space ts) → R (.returned (.tuple #[.int .i64 (t.begun + 1), .int .i64 0])) w') :
    Calls Try.prog 10 #[.pointer (some ⟨t.tb, 0, none⟩), .int .i64 space, .slice a ts.length c] w R := by
  apply vc10
  unfold Vc10
  refine ⟨fun e => (by cases e), fun _ b4 w5 e4 e5 => ?_⟩
  have h5 := h.alloc' e4 e5
  refine ⟨h5.putOk 0 rfl (by simp), fun w6 e6 => ?_⟩
  obtain ⟨sk, hsk⟩ : ∃ sk : Nat → Shoot, ∀ j, sk j = ⟨space, fun i => decide ((i : Int) ∈ ts.take j)⟩ := ⟨fun j => ⟨space, fun i => decide ((i : Int) ∈ ts.take j)⟩, fun j => rfl⟩
  have h6 : Own w0 Im w6 ((b4, .cells (shC (sk 0)).toArray 64 (0, 0)) :: (t.L ++ Fr)) := by
    rw [e6]
    have e1 : shC (sk 0) = [.int .i64 space, .bool false, .bool false, .bool false, .bool false, .bool false, .bool false, .bool false, .bool false] := by simp [shC, hsk]
    rw [e1]
    exact h5.putAll (k := 0) rfl [.int .i64 space, .bool false, .bool false, .bool false, .bool false, .bool false, .bool false, .bool false, .bool false] rfl
  have hEl := Es_len (t := t)
  have hhi := ht.hi
  refine ⟨fun w' => okTs t.Es.length ts ∧ Own w0 Im w' ((b4, .cells (shC (sk ts.length)).toArray 64 (0, 0)) :: (t.L ++ Fr)), ?_, ?_⟩
  · rintro w7 ⟨hok, h7⟩
    have hblo := ht.blo
    refine ⟨_, _, rfl, _, h7.cell 1 rfl _, fun hbig => hfull hok hbig w7 (h7.tail rfl), fun hsmall => ⟨_, h7.cell 1 rfl _, fun r12 e12 => ⟨by rw [h7.cell 1 rfl _]; rfl, h7.frozen 1 rfl _, fun w13 e13 => ?_⟩⟩⟩
    have hb : t.begun < 2147483647 := by omega
    rw [wrap_id (by omega) (by omega)] at e12
    have h13 := h7.set 1 rfl (0 + 2) (.int .i64 r12)
    rw [← e13] at h13
    refine ⟨fun hpos => ?_, fun hz => ⟨_, h13.cell 1 rfl _, ?_⟩⟩
    · have h13 := h13.drew
      have hne : ts ≠ [] := fun e => by rw [e] at hpos; simp at hpos
      refine ⟨_, h13.cell 1 rfl _, _, h13.cell 1 rfl _, _, _, _, _, _, _, _, _, _, h13.cellsAt 0 rfl (vs := shC (sk ts.length)) (fun j v hj => by rw [Nat.zero_add, List.getElem?_toArray]; exact hj), ?_⟩
      have hup := run_mapUpdate (P := Try.prog) (t := 54) (K := 3) (E := 64) (enc := Vc.encI .i64) Try.underlying54 (keyLaw_int Try.underlying3) ht.omnd (h13.get 2 rfl) r12 (shV (sk ts.length))
      refine ⟨_, hup, ?_⟩
      have h25 := h13.setObj 2 rfl (o' := mapObj (Vc.encI .i64) (aput t.OM t.oclk r12 (shV (sk ts.length))).1 (aput t.OM t.oclk r12 (shV (sk ts.length))).2)
      refine ⟨_, h25.cell 1 rfl _, ?_⟩
      subst e12
      refine hR _ { t with begun := t.begun + 1, OM := (aput t.OM t.oclk (t.begun + 1) (shV (sk ts.length))).1, oclk := (aput t.OM t.oclk (t.begun + 1) (shV (sk ts.length))).2, sh := startSh t.sh (t.begun + 1) space ts } hok hb (h25.tail rfl) ?_ ⟨rfl, rfl, rfl, rfl, rfl⟩
      refine ⟨ht.hv, ht.ok, ht.room, ht.lo, ht.hi, ht.slo, ht.shi, nodup_put ht.omnd, ht.oborn.put _ _, fun id => ?_, fun id s hs => ?_, by show 0 ≤ t.begun + 1; omega, by show t.begun + 1 ≤ 2147483647; omega⟩
      · show aget (aput t.OM t.oclk (t.begun + 1) (shV (sk ts.length))).1 id = (startSh t.sh (t.begun + 1) space ts id).map shV
        rw [aget_put]
        unfold startSh
        by_cases e : id = t.begun + 1
        · rw [if_pos e, if_pos ⟨e, hne⟩]
          rw [hsk, List.take_length]; rfl
        · rw [if_neg e, if_neg (fun h => e h.1)]; exact ht.omap id
      · have hs : startSh t.sh (t.begun + 1) space ts id = some s := hs
        unfold startSh at hs
        show 1 ≤ id ∧ id ≤ t.begun + 1
        split at hs
        · rename_i hh; omega
        · have := ht.dom id s hs; omega
    · have hnil : ts = [] := List.eq_nil_of_length_eq_zero (by omega)
      subst e12
      refine hR w13 { t with begun := t.begun + 1, sh := startSh t.sh (t.begun + 1) space ts } hok hb (h13.tail rfl) ?_ ⟨rfl, rfl, rfl, rfl, rfl⟩
      have hsh : startSh t.sh (t.begun + 1) space ts = t.sh := by
        funext i; unfold startSh; rw [if_neg (fun h => h.2 hnil)]
      refine ⟨ht.hv, ht.ok, ht.room, ht.lo, ht.hi, ht.slo, ht.shi, ht.omnd, ht.oborn, fun id => by show aget t.OM id = (startSh t.sh (t.begun + 1) space ts id).map shV; rw [hsh]; exact ht.omap id, fun id s hs => ?_, by show 0 ≤ t.begun + 1; omega, by show t.begun + 1 ≤ 2147483647; omega⟩
      have hs : startSh t.sh (t.begun + 1) space ts id = some s := hs
      rw [hsh] at hs
      have := ht.dom id s hs
      show 1 ≤ id ∧ id ≤ t.begun + 1
      omega
  · refine ⟨fun m v w' => ∃ j : Nat, m = ts.length - j ∧ v = j ∧ j ≤ ts.length ∧ okTs t.Es.length (ts.take j) ∧ Own w0 Im w' ((b4, .cells (shC (sk j)).toArray 64 (0, 0)) :: (t.L ++ Fr)), ⟨_, 0, rfl, rfl, by omega, by simp [okTs], h6⟩, ?_⟩
    rintro m v w30 ⟨j, rfl, rfl, hj, hok, h30⟩
    refine ⟨fun hlt => ?_, fun hge => ?_⟩
    · have hj' : j < ts.length := by omega
      have ej : ((j : Nat) : Int).toNat = j := by omega
      obtain ⟨b, o, ea, hcell⟩ := hts w30 ((b4, .cells (shC (sk j)).toArray 64 (0, 0)) :: t.L) h30 j ts[j] (by simp [hj'])
      refine ⟨_, _, ea, by omega, hlt, ts[j], by rw [ej]; exact hcell, ?_⟩
      refine s20 (h30.tail rfl) (fun hno => ⟨_, rfl, fun e => (by cases e), fun _ => ?_⟩) fun h0 h1 => ⟨_, rfl, fun _ => ?_, fun e => (by cases e)⟩
      · exact hbad (fun hk => hno (hk.1 _ (List.getElem_mem hj'))) w30 (h30.tail rfl)
      · have hx8 : ts[j].toNat < 8 := by omega
        have hcl : w30.cell? ⟨b4, 0 + 1 + ts[j].toNat * 1, none⟩ = some (.bool ((sk j).left ts[j].toNat)) := by
          rw [h30.cell 0 rfl, List.getElem?_toArray]
          have := shC_left (sk j) hx8
          rw [show 0 + 1 + ts[j].toNat * 1 = 1 + ts[j].toNat by omega]; exact this
        have etn : ((ts[j].toNat : Nat) : Int) = ts[j] := by omega
        refine ⟨h0, by show ts[j] < ((8 : Nat) : Int); omega, _, hcl, fun e => ?_, fun e => ⟨h0, by show ts[j] < ((8 : Nat) : Int); omega, by rw [hcl]; rfl, h30.frozen 0 rfl _, fun w38 e38 r39 e39 => ?_⟩⟩
        · have hm : ts[j] ∈ ts.take j := by
            rw [hsk] at e
            have := of_decide_eq_true e
            rw [etn] at this; exact this
          refine hbad (fun hk => ?_) w30 (h30.tail rfl)
          obtain ⟨q, hq, e⟩ := List.mem_iff_getElem.1 hm
          simp only [List.getElem_take] at e
          have hq' : q < j := by simp at hq; omega
          have := nodup_inj hk.2 (i := q) (j := j) (by omega) hj' e
          omega
        · have hnm : ts[j] ∉ ts.take j := by
            rw [hsk] at e
            have := of_decide_eq_false e
            rw [etn] at this; exact this
          rw [wrap_id (by omega) (by omega)] at e39
          have h38 := h30.set 0 rfl (0 + 1 + ts[j].toNat * 1) (.bool true)
          rw [← e38] at h38
          have e1 : (shC (sk j)).toArray.setIfInBounds (0 + 1 + ts[j].toNat * 1) (.bool true) = (shC (sk (j + 1))).toArray := by
            rw [show 0 + 1 + ts[j].toNat * 1 = 1 + ts[j].toNat by omega, shC_set _ hx8]
            congr 2
            rw [hsk, hsk]
            simp only [Shoot.mk.injEq, true_and]
            funext i
            rw [List.take_succ_eq_append_getElem hj']
            by_cases hi : i = ts[j].toNat
            · subst hi
              rw [if_pos rfl, etn]
              exact (decide_eq_true (List.mem_append_right _ (List.mem_singleton.2 rfl))).symm
            · rw [if_neg hi]
              have : ¬ ((i : Nat) : Int) = ts[j] := fun h => hi (by omega)
              exact decide_eq_decide.2 ⟨fun h => List.mem_append_left _ h, fun h => (List.mem_append.1 h).elim id fun h => absurd (List.mem_singleton.1 h) this⟩
          rw [e1] at h38
          refine ⟨_, by omega, j + 1, rfl, by omega, by omega, ⟨fun x hx => ?_, ?_⟩, h38⟩
          · rw [List.take_succ_eq_append_getElem hj'] at hx
            rcases List.mem_append.1 hx with hx | hx
            · exact hok.1 x hx
            · simp at hx; subst hx; exact ⟨h0, h1⟩
          · rw [List.take_succ_eq_append_getElem hj']
            refine List.nodup_append.2 ⟨hok.2, by simp, ?_⟩
            intro x hx y hy e
            simp at hy
            exact hnm (by rw [← hy, ← e]; exact hx)
    · have e : j = ts.length := by omega
      subst e
      rw [List.take_length] at hok
      exact ⟨hok, h30⟩

theorem run_shoot (h : Own w0 Im w L) (hm : (t.ob, mapObj (Vc.encI .i64) t.OM t.oclk) ∈ L) (ht : TlbOk t) (id : Int) (ok : Bool) :
    (Instr.lookup 54 (.map (some t.ob)) (.int .i64 id) ok).run Try.prog w = .ok (if ok then .tuple #[shV ((t.sh id).getD ⟨0, fun _ => false⟩), .bool (t.sh id).isSome] else shV ((t.sh id).getD ⟨0, fun _ => false⟩)) w := by
  have h1 := run_lookup (P := Try.prog) (t := 54) (K := 3) (E := 64) (enc := Vc.encI .i64) Try.underlying54 (keyLaw_int Try.underlying3) (w := w) (b := t.ob) (M := t.OM) (clk := t.oclk) (h.mem hm) id ok (z := shV ⟨0, fun _ => false⟩) Try.type64 rfl
  rw [ht.omap id] at h1
  cases hq : t.sh id with
  | none => rw [hq] at h1; exact h1
  | some s => rw [hq] at h1; exact h1

/-- (*Tlb).Over -/
theorem s12 {id : Int} (h : Own w0 Im w (t.L ++ Fr)) (ht : TlbOk t) (hR : ∀ w', Own w0 Im w' (t.L ++ Fr) → R (.returned (.bool (decide (1 ≤ id ∧ id ≤ t.begun) && (t.sh id).isNone))) w') :
    Calls Try.prog 12 #[.pointer (some ⟨t.tb, 0, none⟩), .int .i64 id] w R := by
  apply vc12
  unfold Vc12
  refine ⟨fun e => (by cases e), fun _ => ⟨fun e => ?_, fun e => ⟨_, _, rfl, _, h.cell 0 rfl _, fun e2 => ?_, fun e2 => ?_⟩⟩⟩
  · have := hR w h
    rw [decide_eq_false (by omega)] at this; exact this
  · have := hR w h
    rw [decide_eq_false (by omega)] at this; exact this
  · rw [decide_eq_true (by omega)] at hR
    have hl := run_shoot h (by simp [TlbG.L]) ht id true
    refine ⟨_, h.cell 0 rfl _, _, _, _, _, _, _, _, _, _, (t.sh id).isSome, hl, fun b17 w18 e17 e18 => ?_⟩
    have h18 := h.alloc' e17 e18
    refine ⟨h18.putOk 0 rfl (by simp), fun w19 e19 => ?_⟩
    have h19 := (h18.putAll (k := 0) rfl (shC ((t.sh id).getD ⟨0, fun _ => false⟩)) rfl).tail rfl
    have h19 : Own w0 Im w19 (t.L ++ Fr) := by rw [e19]; exact h19
    refine ⟨fun e => ?_, fun e => ?_⟩
    · have := hR w19 h19
      cases hq : t.sh id with
      | none => rw [hq] at e; cases e
      | some s => rw [hq] at this; exact this
    · have := hR w19 h19
      cases hq : t.sh id with
      | none => rw [hq] at this; exact this
      | some s => rw [hq] at e; cases e
end
end Go.Proofs.Ytdhdbdpemejpjaa
