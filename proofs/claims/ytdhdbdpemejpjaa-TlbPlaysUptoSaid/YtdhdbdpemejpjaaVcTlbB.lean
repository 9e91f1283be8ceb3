/- A part of the proof: lemmas. -/
import Derived.Test.YtdhdbdpemejpjaaVcTlbA
namespace Go.Proofs.Ytdhdbdpemejpjaa
open Go Go.Vc
set_option maxRecDepth 100000
set_option linter.unusedVariables false

/-- A shootdown that is not over. -/
structure Shoot where
  space : Int
  left : Nat → Bool
def shC (s : Shoot) : List Value := [.int .i64 s.space, .bool (s.left 0), .bool (s.left 1), .bool (s.left 2), .bool (s.left 3), .bool (s.left 4), .bool (s.left 5), .bool (s.left 6), .bool (s.left 7)]
def shV (s : Shoot) : Value := .agg (shC s).toArray
theorem shC_left (s : Shoot) {i : Nat} (hi : i < 8) : (shC s)[1 + i]? = some (.bool (s.left i)) := by
  match i, hi with
  | 0, _ => rfl | 1, _ => rfl | 2, _ => rfl | 3, _ => rfl | 4, _ => rfl | 5, _ => rfl | 6, _ => rfl | 7, _ => rfl
theorem shC_set (s : Shoot) {i : Nat} (hi : i < 8) (b : Bool) : (shC s).toArray.setIfInBounds (1 + i) (.bool b) = (shC { s with left := fun j => if j = i then b else s.left j }).toArray := by
  match i, hi with
  | 0, _ => rfl | 1, _ => rfl | 2, _ => rfl | 3, _ => rfl | 4, _ => rfl | 5, _ => rfl | 6, _ => rfl | 7, _ => rfl
structure TlbG where
  tb : Nat
  size : Int
  hv : VecB
  H : List HartG
  begun : Int
  ob : Nat
  OM : List (Ent Int)
  oclk : Nat
  sh : Int → Option Shoot
def TlbG.cells (t : TlbG) : Array Value := #[.int .i64 t.size, .slice (vecA t.hv) t.H.length (vecC t.hv), .int .i64 t.begun, .map (some t.ob)]
def TlbG.L (t : TlbG) : List (Nat × Obj) := (t.tb, .cells t.cells 56 (0, 0)) :: (t.ob, mapObj (encI .i64) t.OM t.oclk) :: (vecL 59 t.hv ++ t.H.flatMap HartG.L)
/-- What each hart keeps. -/
def TlbG.Es (t : TlbG) : List (List (Key × Int)) := t.H.map (·.E)
structure TlbOk (t : TlbG) : Prop where
  hv : VecE hartC 2 t.hv t.H
  ok : ∀ x ∈ t.H, HartOk x
  room : ∀ x ∈ t.H, (x.E.length : Int) ≤ t.size
  lo : 1 ≤ t.H.length
  hi : t.H.length ≤ 8
  slo : 1 ≤ t.size
  shi : t.size ≤ 64
  omnd : (t.OM.map (·.1)).Nodup
  oborn : Born t.OM t.oclk
  omap : ∀ id, aget t.OM id = (t.sh id).map shV
  dom : ∀ id s, t.sh id = some s → 1 ≤ id ∧ id ≤ t.begun
  blo : 0 ≤ t.begun
  bhi : t.begun ≤ 2147483647
/-- It is the same one; harts keep this now; these shootdowns are not over. -/
structure Turn (t t' : TlbG) (Es : List (List (Key × Int))) (begun : Int) (sh : Int → Option Shoot) : Prop where
  tb : t'.tb = t.tb
  size : t'.size = t.size
  Es : t'.Es = Es
  begun : t'.begun = begun
  sh : t'.sh = sh
theorem Turn.refl (t : TlbG) : Turn t t t.Es t.begun t.sh := ⟨rfl, rfl, rfl, rfl, rfl⟩
theorem Turn.trans {a b c : TlbG} {E E' n n' s s'} (h : Turn a b E n s) (k : Turn b c E' n' s') : Turn a c E' n' s' := ⟨k.tb.trans h.tb, k.size.trans h.size, k.Es, k.begun, k.sh⟩
/-- What a hart keeps, whichever. -/
def hartE (Es : List (List (Key × Int))) (h : Int) : List (Key × Int) := if 0 ≤ h then Es.getD h.toNat [] else []
theorem hartE_no {Es : List (List (Key × Int))} {h : Int} (hn : ¬ (0 ≤ h ∧ h < Es.length)) : hartE Es h = [] := by
  unfold hartE
  by_cases h0 : 0 ≤ h
  · rw [if_pos h0, List.getD_eq_getElem?_getD, List.getElem?_eq_none (by omega)]; rfl
  · rw [if_neg h0]
theorem hartE_at {Es : List (List (Key × Int))} {h : Int} (h0 : 0 ≤ h) (h1 : h < Es.length) : ∃ hl : h.toNat < Es.length, hartE Es h = Es[h.toNat] := by
  have hl : h.toNat < Es.length := by omega
  refine ⟨hl, ?_⟩
  unfold hartE
  rw [if_pos h0, List.getD_eq_getElem?_getD, List.getElem?_eq_getElem hl]; rfl
theorem perm_at {H : List HartG} {i : Nat} (hi : i < H.length) : (H.flatMap HartG.L).Perm (H[i].L ++ (H.eraseIdx i).flatMap HartG.L) := by
  induction H generalizing i with
  | nil => cases hi
  | cons x t ih =>
    cases i with
    | zero => simp
    | succ i =>
      have hi' : i < t.length := by simpa using hi
      simp only [List.flatMap_cons, List.getElem_cons_succ, List.eraseIdx_cons_succ]
      exact (List.Perm.append_left _ (ih hi')).trans (perm_l _ _ _)
theorem erase_set {α : Type} {H : List α} {i : Nat} {x : α} : (H.set i x).eraseIdx i = H.eraseIdx i := by
  induction H generalizing i with
  | nil => rfl
  | cons a t ih =>
    cases i with
    | zero => rfl
    | succ i => simp [ih]
theorem perm_set {H : List HartG} {i : Nat} (hi : i < H.length) (x : HartG) : ((H.set i x).flatMap HartG.L).Perm (x.L ++ (H.eraseIdx i).flatMap HartG.L) := by
  have := perm_at (H := H.set i x) (i := i) (by simpa using hi)
  rw [erase_set] at this
  simpa using this

section
variable {w0 w : World} {Im : Mem} {Fr L : List (Nat × Obj)} {t : TlbG} {R : Ending → World → Prop}

theorem Es_len : t.Es.length = t.H.length := by simp [TlbG.Es]
/-- (*Tlb).Harts -/
theorem s33 (h : Own w0 Im w (t.L ++ Fr)) (hR : R (.returned (.int .i64 (t.H.length : Nat))) w) : Calls Try.prog 33 #[.pointer (some ⟨t.tb, 0, none⟩)] w R := by
  apply vc33
  unfold Vc33
  exact ⟨fun e => (by cases e), fun _ => ⟨_, _, rfl, _, _, _, h.cell 0 rfl _, hR⟩⟩
/-- (*Tlb).is -/
theorem s20 {i : Int} (h : Own w0 Im w (t.L ++ Fr)) (hno : ¬ (0 ≤ i ∧ i < t.Es.length) → R (.returned (.bool false)) w) (hyes : 0 ≤ i → i < t.Es.length → R (.returned (.bool true)) w) : Calls Try.prog 20 #[.pointer (some ⟨t.tb, 0, none⟩), .int .i64 i] w R := by
  apply vc20
  unfold Vc20
  have hl := Es_len (t := t)
  refine ⟨fun h0 => s33 h ⟨_, rfl, ?_⟩, fun h0 => hno (by omega)⟩
  by_cases h1 : i < ((t.H.length : Nat) : Int)
  · rw [decide_eq_true h1]; exact hyes h0 (by omega)
  · rw [decide_eq_false h1]; exact hno (by omega)
/-- Where a hart stands. -/
theorem hart_at (h : Own w0 Im w (t.L ++ Fr)) (ht : TlbOk t) {i : Nat} (hi : i < t.H.length) :
    ∃ hb, vecA t.hv = some ⟨hb, 0, none⟩ ∧ w.cell? ⟨hb, i * 2, none⟩ = some (.map (some t.H[i].mb)) ∧ w.cell? ⟨hb, i * 2 + 1, none⟩ = some (.slice (vecA t.H[i].ov) t.H[i].E.length (vecC t.H[i].ov)) := by
  obtain ⟨hb, e1, e2⟩ := vecE_cell (e := 59) hartC_len h (fun p hp => by simp [TlbG.L, hp]) ht.hv hi
  exact ⟨hb, e1, e2 0 (by omega), e2 1 (by omega)⟩
theorem mem_hart {i : Nat} (hi : i < t.H.length) {p : Nat × Obj} (hp : p ∈ t.H[i].L) : p ∈ t.L := by
  have : p ∈ t.H.flatMap HartG.L := (perm_at hi).mem_iff.2 (List.mem_append_left _ hp)
  simp only [TlbG.L, List.mem_cons, List.mem_append]
  exact .inr (.inr (.inr this))

/-- (*Tlb).Look -/
theorem s16 {i : Int} {k : Key} (h : Own w0 Im w (t.L ++ Fr)) (ht : TlbOk t) (hR : ∀ w', Own w0 Im w' (t.L ++ Fr) → R (.returned (.tuple #[.int .u32 ((lookE (hartE t.Es i) k).getD 0), .bool (lookE (hartE t.Es i) k).isSome])) w') :
    Calls Try.prog 16 #[.pointer (some ⟨t.tb, 0, none⟩), .int .i64 i, .agg #[.int .i64 k.1, .int .i64 k.2]] w R := by
  apply vc16
  unfold Vc16
  intro b5 w6 e5 e6
  have h6 := h.alloc' e5 e6
  refine s20 (h6.tail rfl) (fun hno => ⟨_, rfl, fun e => (by cases e), fun _ => ?_⟩) fun h0 h1 => ⟨_, rfl, fun _ => ?_, fun e => (by cases e)⟩
  · have := hR w6 (h6.tail rfl)
    rw [hartE_no hno] at this
    exact this
  · obtain ⟨hl, he⟩ := hartE_at h0 h1
    rw [Es_len] at hl
    have h8 := h6.drew
    obtain ⟨hb, ea, c0, c1⟩ := hart_at (h8.tail rfl) ht hl
    have hm : (t.H[i.toNat].mb, mapObj keyE t.H[i.toNat].M t.H[i.toNat].clk) ∈ t.L := mem_hart hl (List.mem_cons_self ..)
    have hlk := run_lookup (P := Try.prog) (t := 57) (K := 31) (E := 32) (enc := keyE) Try.underlying57 keyKey (w := w6.drew) (b := t.H[i.toNat].mb) (M := t.H[i.toNat].M) (clk := t.H[i.toNat].clk) (h8.mem (List.mem_cons_of_mem _ (List.mem_append_left _ hm))) k true (z := .int .u32 0) Try.type32 rfl
    have hok := ht.ok _ (List.getElem_mem hl)
    rw [hok.map] at hlk
    have hEs : hartE t.Es i = t.H[i.toNat].E := by rw [he]; simp [TlbG.Es]
    rw [hEs] at hR
    refine ⟨_, _, rfl, _, _, _, h8.cell 1 rfl _, _, _, ea, h0, by rw [Es_len] at h1; exact h1, _, by rw [Nat.zero_add]; exact c0, _, _, h8.cellsAt 0 rfl (vs := keyC k) (fun j v hj => by rw [Nat.zero_add, List.getElem?_toArray]; exact hj), (lookE t.H[i.toNat].E k).getD 0, (lookE t.H[i.toNat].E k).isSome, ?_, hR _ (h8.tail rfl)⟩
    cases hq : lookE t.H[i.toNat].E k with
    | none => rw [hq] at hlk; exact hlk
    | some n => rw [hq] at hlk; exact hlk

/-- (*Tlb).Kept -/
theorem s14 {i : Int} (h : Own w0 Im w (t.L ++ Fr)) (ht : TlbOk t) (hR : ∀ w' x, Own w0 Im w' (vecL 31 x ++ (t.L ++ Fr)) → VecE keyC 2 x ((hartE t.Es i).map (·.1)) → R (.returned (.slice (vecA x) (hartE t.Es i).length (vecC x))) w') :
    Calls Try.prog 14 #[.pointer (some ⟨t.tb, 0, none⟩), .int .i64 i] w R := by
  apply vc14
  unfold Vc14
  refine s20 h (fun hno => ⟨_, rfl, fun e => (by cases e), fun _ => ?_⟩) fun h0 h1 => ⟨_, rfl, fun _ => ?_, fun e => (by cases e)⟩
  · have := hR w none h (by rw [hartE_no hno]; exact VecE.nil)
    rw [hartE_no hno] at this
    exact this
  · obtain ⟨hl, he⟩ := hartE_at h0 h1
    rw [Es_len] at hl
    obtain ⟨hb, ea, c0, c1⟩ := hart_at h ht hl
    have hok := ht.ok _ (List.getElem_mem hl)
    have hEs : hartE t.Es i = t.H[i.toNat].E := by rw [he]; simp [TlbG.Es]
    rw [hEs] at hR
    have hlen : (t.H[i.toNat].E.map (·.1)).length = t.H[i.toNat].E.length := by simp
    refine ⟨_, _, rfl, _, _, _, h.cell 0 rfl _, _, _, ea, h0, by rw [Es_len] at h1; exact h1, _, _, _, by rw [Nat.zero_add]; exact c1, ?_⟩
    have p1 : (t.L ++ Fr).Perm (vecL 31 t.H[i.toNat].ov ++ ([(t.tb, .cells t.cells 56 (0, 0)), (t.ob, mapObj (encI .i64) t.OM t.oclk)] ++ (vecL 59 t.hv ++ ((t.H[i.toNat].mb, mapObj keyE t.H[i.toNat].M t.H[i.toNat].clk) :: ((t.H.eraseIdx i.toNat).flatMap HartG.L ++ Fr))))) := by
      have q := perm_at hl
      have q1 : (t.L ++ Fr).Perm ([(t.tb, .cells t.cells 56 (0, 0)), (t.ob, mapObj (encI .i64) t.OM t.oclk)] ++ (vecL 59 t.hv ++ ((t.H[i.toNat].L ++ (t.H.eraseIdx i.toNat).flatMap HartG.L) ++ Fr))) := by
        have : t.L ++ Fr = [(t.tb, .cells t.cells 56 (0, 0)), (t.ob, mapObj (encI .i64) t.OM t.oclk)] ++ (vecL 59 t.hv ++ (t.H.flatMap HartG.L ++ Fr)) := by simp [TlbG.L]
        rw [this]
        exact List.Perm.append_left _ (List.Perm.append_left _ (q.append_right Fr))
      refine q1.trans ?_
      have e : (t.H[i.toNat].L ++ (t.H.eraseIdx i.toNat).flatMap HartG.L) ++ Fr = [(t.H[i.toNat].mb, mapObj keyE t.H[i.toNat].M t.H[i.toNat].clk)] ++ (vecL 31 t.H[i.toNat].ov ++ ((t.H.eraseIdx i.toNat).flatMap HartG.L ++ Fr)) := by simp [HartG.L]
      rw [e]
      exact (List.Perm.append_left _ (List.Perm.append_left _ (perm_l _ _ _))).trans ((List.Perm.append_left _ (perm_l _ _ _)).trans (perm_l _ _ _))
    rw [← hlen]
    refine s24 (h.perm p1) hok.vec (by rw [hlen]; have := hok.len; omega) fun w13 x h13 hx => ⟨_, _, _, rfl, ?_⟩
    rw [hlen]
    exact hR w13 x (h13.perm (List.Perm.append_left _ p1.symm)) hx

/-- What is kept behind a flush. -/
def flushEs (Es : List (List (Key × Int))) (i : Int) (sp : Int) : List (List (Key × Int)) := if 0 ≤ i ∧ i < Es.length then Es.set i.toNat (keepE (hartE Es i) sp) else Es
/-- forget, at a hart. -/
theorem forget_at {i : Nat} (h : Own w0 Im w (t.L ++ Fr)) (ht : TlbOk t) (hi : i < t.H.length) (sp : Int) {hb : Nat} (ea : vecA t.hv = some ⟨hb, 0, none⟩)
    (hR : ∀ w' t', Own w0 Im w' (t'.L ++ Fr) → TlbOk t' → Turn t t' (t.Es.set i (keepE t.H[i].E sp)) t.begun t.sh → t'.ob = t.ob → t'.OM = t.OM → t'.oclk = t.oclk → t'.cells = t.cells → R (.returned (.int .i64 ((t.H[i].E.length : Int) - ((keepE t.H[i].E sp).length : Int)))) w') :
    Calls Try.prog 23 #[.pointer (some ⟨hb, i * 2, none⟩), .int .i64 sp] w R := by
  obtain ⟨g, c, cur, hhv⟩ := ht.hv.isSome (by omega)
  have hv := ht.hv
  rw [hhv] at ea hv
  have hgb : g = hb := by have : (some (⟨g, 0, none⟩ : Addr)) = some ⟨hb, 0, none⟩ := ea; simpa using this
  subst hgb
  have hcell : ∀ k, k < 2 → cur.toArray[i * 2 + k]? = (hartC t.H[i])[k]? := by
    intro k hk
    obtain ⟨b, e1, e2⟩ := vecE_cell (e := 59) hartC_len h (fun p hp => by simp [TlbG.L, hp]) ht.hv hi
    rw [hhv] at e1
    have : g = b := by have : (some (⟨g, 0, none⟩ : Addr)) = some ⟨b, 0, none⟩ := e1; simpa using this
    subst this
    rw [← e2 k hk, cell_of (h.mem (b := g) (o := .cells cur.toArray 59 (0, 0)) (by simp [TlbG.L, hhv, vecL]))]
  have p1 : ∀ (v : List Value) (H : List HartG) (x : HartG), (H.flatMap HartG.L).Perm (x.L ++ (t.H.eraseIdx i).flatMap HartG.L) →
      ((t.tb, Obj.cells t.cells 56 (0, 0)) :: (t.ob, mapObj (encI .i64) t.OM t.oclk) :: (vecL 59 (some (g, c, v)) ++ H.flatMap HartG.L) ++ Fr).Perm ((g, .cells v.toArray 59 (0, 0)) :: (x.L ++ ((t.H.eraseIdx i).flatMap HartG.L ++ ([(t.tb, .cells t.cells 56 (0, 0)), (t.ob, mapObj (encI .i64) t.OM t.oclk)] ++ Fr)))) := by
    intro v H x hp
    have q1 := perm_l [(t.tb, Obj.cells t.cells 56 (0, 0)), (t.ob, mapObj (encI .i64) t.OM t.oclk)] (vecL 59 (some (g, c, v)) ++ H.flatMap HartG.L) Fr
    have e1 : ((t.tb, Obj.cells t.cells 56 (0, 0)) :: (t.ob, mapObj (encI .i64) t.OM t.oclk) :: (vecL 59 (some (g, c, v)) ++ H.flatMap HartG.L) ++ Fr) = [(t.tb, Obj.cells t.cells 56 (0, 0)), (t.ob, mapObj (encI .i64) t.OM t.oclk)] ++ ((vecL 59 (some (g, c, v)) ++ H.flatMap HartG.L) ++ Fr) := rfl
    rw [e1]
    refine q1.trans ?_
    have e2 : (vecL 59 (some (g, c, v)) ++ H.flatMap HartG.L) ++ ([(t.tb, Obj.cells t.cells 56 (0, 0)), (t.ob, mapObj (encI .i64) t.OM t.oclk)] ++ Fr) = (g, .cells v.toArray 59 (0, 0)) :: (H.flatMap HartG.L ++ ([(t.tb, Obj.cells t.cells 56 (0, 0)), (t.ob, mapObj (encI .i64) t.OM t.oclk)] ++ Fr)) := by simp [vecL]
    rw [e2]
    refine List.Perm.cons _ ?_
    have := hp.append_right ([(t.tb, Obj.cells t.cells 56 (0, 0)), (t.ob, mapObj (encI .i64) t.OM t.oclk)] ++ Fr)
    rw [List.append_assoc] at this
    exact this
  have hL : t.L = (t.tb, Obj.cells t.cells 56 (0, 0)) :: (t.ob, mapObj (encI .i64) t.OM t.oclk) :: (vecL 59 (some (g, c, cur)) ++ t.H.flatMap HartG.L) := by rw [← hhv]; rfl
  rw [hL] at h
  have hp := h.perm (p1 cur t.H t.H[i] (perm_at hi))
  refine s23 hp (ht.ok _ (List.getElem_mem hi)) (by have := hcell 0 (by omega); exact this) (by have := hcell 1 (by omega); exact this) sp fun w' x' h' hx' hmb hE => ?_
  have hset : hartC x' = (hartC t.H[i]).set 1 (.slice (vecA x'.ov) x'.E.length (vecC x'.ov)) := by
    unfold hartC
    rw [hmb]; rfl
  have hv' := vecE_cellset hartC_len hv hi (k := 1) (by omega) hset
  have hEs' : ({ t with hv := some (g, c, cur.set (i * 2 + 1) (.slice (vecA x'.ov) x'.E.length (vecC x'.ov))), H := t.H.set i x' } : TlbG).Es = t.Es.set i (keepE t.H[i].E sp) := by
    unfold TlbG.Es
    rw [List.map_set, hE]
  have hcells : ({ t with hv := some (g, c, cur.set (i * 2 + 1) (.slice (vecA x'.ov) x'.E.length (vecC x'.ov))), H := t.H.set i x' } : TlbG).cells = t.cells := by
    unfold TlbG.cells
    rw [hhv]
    simp [vecA, vecC]
  refine hR w' { t with hv := some (g, c, cur.set (i * 2 + 1) (.slice (vecA x'.ov) x'.E.length (vecC x'.ov))), H := t.H.set i x' } ?_ ?_ ⟨rfl, rfl, hEs', rfl, rfl⟩ rfl rfl rfl hcells
  · rw [List.setIfInBounds_toArray] at h'
    have := h'.perm (p1 _ (t.H.set i x') x' (perm_set hi x')).symm
    unfold TlbG.L
    rw [hcells]
    exact this
  · have hmem : ∀ x ∈ t.H.set i x', x = x' ∨ x ∈ t.H := fun x hx => by
      rcases List.mem_or_eq_of_mem_set hx with h | h
      · exact .inr h
      · exact .inl h
    refine ⟨hv', fun x hx => ?_, fun x hx => ?_, by show 1 ≤ (t.H.set i x').length; simpa using ht.lo, by show (t.H.set i x').length ≤ 8; simpa using ht.hi, ht.slo, ht.shi, ht.omnd, ht.oborn, ht.omap, ht.dom, ht.blo, ht.bhi⟩
    · rcases hmem x hx with rfl | hx
      · exact hx'
      · exact ht.ok x hx
    · rcases hmem x hx with rfl | hx
      · have h1 := ht.room _ (List.getElem_mem hi)
        have h2 : (keepE t.H[i].E sp).length ≤ t.H[i].E.length := List.length_filter_le _ _
        rw [hE]
        show ((keepE t.H[i].E sp).length : Int) ≤ t.size
        omega
      · exact ht.room x hx
/-- (*Tlb).Flush -/
theorem s15 {i sp : Int} (h : Own w0 Im w (t.L ++ Fr)) (ht : TlbOk t)
    (hR : ∀ w' t', Own w0 Im w' (t'.L ++ Fr) → TlbOk t' → Turn t t' (flushEs t.Es i sp) t.begun t.sh → R (.returned (.int .i64 (((hartE t.Es i).length : Int) - ((keepE (hartE t.Es i) sp).length : Int)))) w') :
    Calls Try.prog 15 #[.pointer (some ⟨t.tb, 0, none⟩), .int .i64 i, .int .i64 sp] w R := by
  apply vc15
  unfold Vc15
  refine s20 h (fun hno => ⟨_, rfl, fun e => (by cases e), fun _ => ?_⟩) fun h0 h1 => ⟨_, rfl, fun _ => ?_, fun e => (by cases e)⟩
  · have := hR w t h ht (by unfold flushEs; rw [if_neg hno]; exact Turn.refl t)
    rw [hartE_no hno] at this
    exact this
  · obtain ⟨hl, he⟩ := hartE_at h0 h1
    have hl2 := hl
    rw [Es_len] at hl
    obtain ⟨hb, ea, c0, c1⟩ := hart_at h ht hl
    have hEs : hartE t.Es i = t.H[i.toNat].E := by rw [he]; simp [TlbG.Es]
    refine ⟨_, _, rfl, _, _, _, h.cell 0 rfl _, _, _, ea, h0, by rw [Es_len] at h1; exact h1, ?_⟩
    rw [Nat.zero_add]
    refine forget_at h ht hl sp ea fun w' t' h' ht' htt _ _ _ _ => ⟨_, rfl, ?_⟩
    rw [hEs] at hR
    refine hR w' t' h' ht' ?_
    unfold flushEs
    rw [if_pos ⟨h0, h1⟩, hEs]
    exact htt
end
end Go.Proofs.Ytdhdbdpemejpjaa
