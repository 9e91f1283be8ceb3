/- A part of the proof: lemmas. -/
import Derived.Test.YtdhdbdpemejpjaaVcTlbH
namespace Go.Proofs.Ytdhdbdpemejpjaa
open Go Go.Vc
set_option maxRecDepth 100000
set_option linter.unusedVariables false

/-! the reference's state -/
structure RH where
  v : VecB
  E : List (Key × Int)
structure RS where
  v : VecB
  id : Int
  sp : Int
  left : List Int
def keptC (e : Key × Int) : List Value := [.int .i64 e.1.1, .int .i64 e.1.2, .int .u32 e.2]
theorem keptC_len (e : Key × Int) : (keptC e).length = 3 := rfl
theorem keptC_one (e : Key × Int) : ∀ u ∈ keptC e, u.oneCell' = true := by intro u hu; simp [keptC] at hu; rcases hu with rfl | rfl | rfl <;> rfl
def rhV (x : RH) : Value := .slice (vecA x.v) x.E.length (vecC x.v)
def rhC (x : RH) : List Value := [rhV x]
theorem rhC_len (e : RH) : (rhC e).length = 1 := rfl
def rsV (x : RS) : Value := .slice (vecA x.v) x.left.length (vecC x.v)
def rsC (x : RS) : List Value := [.int .i64 x.id, .int .i64 x.sp, rsV x]
theorem rsC_len (e : RS) : (rsC e).length = 3 := rfl
theorem rsC_one (e : RS) : ∀ u ∈ rsC e, u.oneCell' = true := by intro u hu; simp [rsC] at hu; rcases hu with rfl | rfl | rfl <;> rfl
def RH.L (x : RH) : List (Nat × Obj) := vecL 75 x.v
def RS.L (x : RS) : List (Nat × Obj) := vecL 3 x.v
structure RefG where
  rb : Nat
  size : Int
  hv : VecB
  H : List RH
  av : VecB
  A : List RS
def RefG.cells (x : RefG) : Array Value := #[.int .i64 x.size, .slice (vecA x.hv) x.H.length (vecC x.hv), .slice (vecA x.av) x.A.length (vecC x.av)]
def RefG.L (x : RefG) : List (Nat × Obj) := (x.rb, .cells x.cells 71 (0, 0)) :: (vecL 73 x.hv ++ (vecL 84 x.av ++ (x.H.flatMap RH.L ++ x.A.flatMap RS.L)))
def RefG.Es (x : RefG) : List (List (Key × Int)) := x.H.map (·.E)
def RefG.sh (x : RefG) : List (Int × List Int) := x.A.map fun s => (s.sp, s.left)
structure RefOk (x : RefG) : Prop where
  hv : VecE rhC 1 x.hv x.H
  ev : ∀ h ∈ x.H, VecE keptC 3 h.v h.E
  nd : ∀ h ∈ x.H, (h.E.map (·.1)).Nodup
  room : ∀ h ∈ x.H, (h.E.length : Int) ≤ x.size
  hi : x.H.length ≤ 8
  slo : 1 ≤ x.size
  shi : x.size ≤ 64
  av : VecE rsC 3 x.av x.A
  lv : ∀ s ∈ x.A, VecE intC 1 s.v s.left
  ids : ∀ i (h : i < x.A.length), x.A[i].id = i + 1
  left : ∀ s ∈ x.A, okTs x.H.length s.left
/-- It is the same one. -/
structure RTurn (x x' : RefG) (Es : List (List (Key × Int))) (sh : List (Int × List Int)) : Prop where
  rb : x'.rb = x.rb
  size : x'.size = x.size
  Es : x'.Es = Es
  sh : x'.sh = sh
theorem RTurn.refl (x : RefG) : RTurn x x x.Es x.sh := ⟨rfl, rfl, rfl, rfl⟩
theorem RTurn.trans {a b c : RefG} {E E' s s'} (h : RTurn a b E s) (k : RTurn b c E' s') : RTurn a c E' s' := ⟨k.rb.trans h.rb, k.size.trans h.size, k.Es, k.sh⟩

section
variable {α β : Type} {f : α → List β}
theorem permG {H : List α} {i : Nat} (hi : i < H.length) : (H.flatMap f).Perm (f H[i] ++ (H.eraseIdx i).flatMap f) := by
  induction H generalizing i with
  | nil => cases hi
  | cons x t ih =>
    cases i with
    | zero => simp
    | succ i =>
      have hi' : i < t.length := by simpa using hi
      simp only [List.flatMap_cons, List.getElem_cons_succ, List.eraseIdx_cons_succ]
      exact (List.Perm.append_left _ (ih hi')).trans (perm_l _ _ _)
theorem permGset {H : List α} {i : Nat} (hi : i < H.length) (x : α) : ((H.set i x).flatMap f).Perm (f x ++ (H.eraseIdx i).flatMap f) := by
  have := permG (f := f) (H := H.set i x) (i := i) (by simpa using hi)
  rw [erase_set] at this
  simpa using this
open Classical in
theorem by_count {l l' : List β} (h : ∀ a, l.count a = l'.count a) : l.Perm l' := List.perm_iff_count.2 h
open Classical in
theorem count_of {l l' : List β} (h : l.Perm l') (a : β) : l.count a = l'.count a := h.count_eq a
end

section
variable {w0 w : World} {Im : Mem} {Fr L : List (Nat × Obj)} {x : RefG} {R : Ending → World → Prop}

theorem REs_len : x.Es.length = x.H.length := by simp [RefG.Es]
theorem Rsh_len : x.sh.length = x.A.length := by simp [RefG.sh]
theorem RefG.hartAt (h : Own w0 Im w (x.L ++ Fr)) (hx : RefOk x) {i : Nat} (hi : i < x.H.length) : ∃ g, vecA x.hv = some ⟨g, 0, none⟩ ∧ w.cell? ⟨g, 0 + i, none⟩ = some (.slice (vecA x.H[i].v) x.H[i].E.length (vecC x.H[i].v)) := by
  obtain ⟨g, e1, e2⟩ := vecE_cell1 (f := rhV) (e := 73) h (fun p hp => by simp [RefG.L, hp]) hx.hv hi
  exact ⟨g, e1, by rw [Nat.zero_add]; exact e2⟩
theorem RefG.keptAt (h : Own w0 Im w (x.L ++ Fr)) (hx : RefOk x) {i : Nat} (hi : i < x.H.length) {j : Nat} (hj : j < x.H[i].E.length) :
    ∃ g, vecA x.H[i].v = some ⟨g, 0, none⟩ ∧ ∀ k, k < 3 → w.cell? ⟨g, 0 + j * 3 + k, none⟩ = (keptC x.H[i].E[j])[k]? := by
  obtain ⟨g, e1, e2⟩ := vecE_cell (e := 75) keptC_len h (fun p hp => by
    have : p ∈ x.H.flatMap RH.L := (permG hi).mem_iff.2 (List.mem_append_left _ hp)
    simp only [RefG.L, List.cons_append, List.mem_cons, List.mem_append]
    simp [this]) (hx.ev _ (List.getElem_mem hi)) hj
  exact ⟨g, e1, fun k hk => by rw [Nat.zero_add]; exact e2 k hk⟩
theorem RefG.shAt (h : Own w0 Im w (x.L ++ Fr)) (hx : RefOk x) {i : Nat} (hi : i < x.A.length) : ∃ g, vecA x.av = some ⟨g, 0, none⟩ ∧ ∀ k, k < 3 → w.cell? ⟨g, 0 + i * 3 + k, none⟩ = (rsC x.A[i])[k]? := by
  obtain ⟨g, e1, e2⟩ := vecE_cell (e := 84) rsC_len h (fun p hp => by simp [RefG.L, hp]) hx.av hi
  exact ⟨g, e1, fun k hk => by rw [Nat.zero_add]; exact e2 k hk⟩
theorem RefG.leftAt (h : Own w0 Im w (x.L ++ Fr)) (hx : RefOk x) {i : Nat} (hi : i < x.A.length) {j : Nat} (hj : j < x.A[i].left.length) :
    ∃ g, vecA x.A[i].v = some ⟨g, 0, none⟩ ∧ w.cell? ⟨g, 0 + j, none⟩ = some (.int .i64 x.A[i].left[j]) := by
  obtain ⟨g, e1, e2⟩ := vecE_cell (e := 3) intC_len h (fun p hp => by
    have : p ∈ x.A.flatMap RS.L := (permG hi).mem_iff.2 (List.mem_append_left _ hp)
    simp only [RefG.L, List.cons_append, List.mem_cons, List.mem_append]
    simp [this]) (hx.lv _ (List.getElem_mem hi)) hj
  refine ⟨g, e1, ?_⟩
  have := e2 0 (by omega)
  rw [Nat.mul_one, Nat.add_zero] at this
  rw [Nat.zero_add]; exact this

/-- All but what one hart keeps. -/
def RefG.restH (x : RefG) (i : Nat) : List (Nat × Obj) := (x.rb, .cells x.cells 71 (0, 0)) :: (vecL 73 x.hv ++ (vecL 84 x.av ++ ((x.H.eraseIdx i).flatMap RH.L ++ x.A.flatMap RS.L)))
theorem RefG.openH {i : Nat} (hi : i < x.H.length) : (x.L ++ Fr).Perm (vecL 75 x.H[i].v ++ (x.restH i ++ Fr)) := by
  have hp1 := permG (f := RH.L) hi
  refine by_count fun a => ?_
  have q1 := count_of hp1 a
  simp only [List.count_append, RH.L] at q1
  simp only [RefG.L, RefG.restH, List.count_append, List.cons_append, List.count_cons, List.count_nil]
  omega
theorem RefG.dropH {i : Nat} (h : Own w0 Im w (L ++ (x.L ++ Fr))) (hi : i < x.H.length) : Own w0 Im w (L ++ (x.restH i ++ Fr)) :=
  (h.perm ((List.Perm.append_left L (RefG.openH hi)).trans (perm_l _ _ _))).sub (List.sublist_append_right _ _)
/-- A hart keeps another list. -/
theorem RefG.setH {i : Nat} {v : VecB} {E : List (Key × Int)} (h : Own w0 Im w (vecL 75 v ++ (x.restH i ++ Fr))) (hx : RefOk x) (hi : i < x.H.length) (hv : VecE keptC 3 v E) (hn : (E.map (·.1)).Nodup) (hr : (E.length : Int) ≤ x.size) :
    ∃ g, vecA x.hv = some ⟨g, 0, none⟩ ∧ (w.cell? ⟨g, 0 + i, none⟩).isSome = true ∧ w.frozen? ⟨g, 0 + i, none⟩ = false ∧
      ∃ x', Own w0 Im (w.setCell ⟨g, 0 + i, none⟩ (.slice (vecA v) E.length (vecC v))) (x'.L ++ Fr) ∧ RefOk x' ∧ RTurn x x' (x.Es.set i E) x.sh := by
  have hp2 := permGset (f := RH.L) hi ⟨v, E⟩
  have p1 : (vecL 75 v ++ (x.restH i ++ Fr)).Perm (vecL 73 x.hv ++ (vecL 75 v ++ ([(x.rb, .cells x.cells 71 (0, 0))] ++ (vecL 84 x.av ++ ((x.H.eraseIdx i).flatMap RH.L ++ (x.A.flatMap RS.L ++ Fr)))))) := by
    refine by_count fun a => ?_
    simp only [RefG.restH, List.count_append, List.cons_append, List.count_cons, List.count_nil]
    omega
  obtain ⟨g, e1, c1, c2, hv', ea, ec, o', hx'⟩ := vecE_set (f := rhC) (n := 1) rhC_len (h.perm p1) hx.hv hi (k := 0) (by omega) (v := rhV ⟨v, E⟩) (a := ⟨v, E⟩) rfl
  rw [Nat.mul_one, Nat.add_zero] at c1 c2 o'
  rw [Nat.zero_add]
  refine ⟨g, e1, c1, c2, { x with hv := hv', H := x.H.set i ⟨v, E⟩ }, ?_, ?_, ⟨rfl, rfl, by simp [RefG.Es, List.map_set], rfl⟩⟩
  · have hc : ({ x with hv := hv', H := x.H.set i ⟨v, E⟩ } : RefG).cells = x.cells := by
      unfold RefG.cells
      simp only [ea, ec, List.length_set]
    refine o'.perm (by_count fun a => ?_)
    have q2 := count_of hp2 a
    simp only [List.count_append, RH.L] at q2
    simp only [RefG.L, hc, List.count_append, List.cons_append, List.count_cons, List.count_nil]
    omega
  · have hmem : ∀ y ∈ x.H.set i ⟨v, E⟩, y = ⟨v, E⟩ ∨ y ∈ x.H := fun y hy => (List.mem_or_eq_of_mem_set hy).symm
    refine ⟨hx', fun y hy => ?_, fun y hy => ?_, fun y hy => ?_, by simpa using hx.hi, hx.slo, hx.shi, hx.av, hx.lv, hx.ids, by simpa using hx.left⟩
    · rcases hmem y hy with rfl | hy
      · exact hv
      · exact hx.ev y hy
    · rcases hmem y hy with rfl | hy
      · exact hn
      · exact hx.nd y hy
    · rcases hmem y hy with rfl | hy
      · exact hr
      · exact hx.room y hy
/-- What is kept turns, in its place. -/
theorem RefG.setE (h : Own w0 Im w (x.L ++ Fr)) (hx : RefOk x) {i : Nat} (hi : i < x.H.length) {j : Nat} (hj : j < x.H[i].E.length) (v : Int) :
    ∃ g, vecA x.H[i].v = some ⟨g, 0, none⟩ ∧ (w.cell? ⟨g, 0 + j * 3 + 2, none⟩).isSome = true ∧ w.frozen? ⟨g, 0 + j * 3 + 2, none⟩ = false ∧
      ∃ x', Own w0 Im (w.setCell ⟨g, 0 + j * 3 + 2, none⟩ (.int .u32 v)) (x'.L ++ Fr) ∧ RefOk x' ∧ RTurn x x' (x.Es.set i (x.H[i].E.set j (x.H[i].E[j].1, v))) x.sh := by
  have hp1 := permG (f := RH.L) hi
  have p1 : (x.L ++ Fr).Perm (vecL 75 x.H[i].v ++ ((x.H.eraseIdx i).flatMap RH.L ++ ([(x.rb, .cells x.cells 71 (0, 0))] ++ (vecL 73 x.hv ++ (vecL 84 x.av ++ (x.A.flatMap RS.L ++ Fr)))))) := by
    refine by_count fun a => ?_
    have q1 := count_of hp1 a
    simp only [List.count_append, RH.L] at q1
    simp only [RefG.L, List.count_append, List.cons_append, List.count_cons, List.count_nil]
    omega
  obtain ⟨g, e1, c1, c2, v', ea, ec, o', hx'⟩ := vecE_set (f := keptC) (n := 3) keptC_len (h.perm p1) (hx.ev _ (List.getElem_mem hi)) hj (k := 2) (by omega) (v := .int .u32 v) (a := (x.H[i].E[j].1, v)) rfl
  rw [Nat.zero_add]
  generalize hE' : x.H[i].E.set j (x.H[i].E[j].1, v) = E' at hx'
  have hl : E'.length = x.H[i].E.length := by rw [← hE']; simp
  have hk : E'.map (·.1) = x.H[i].E.map (·.1) := by
    rw [← hE', List.map_set]
    exact set_self (by simp [hj])
  have hp2 := permGset (f := RH.L) hi ⟨v', E'⟩
  refine ⟨g, e1, c1, c2, { x with H := x.H.set i ⟨v', E'⟩ }, ?_, ?_, ⟨rfl, rfl, by simp [RefG.Es, List.map_set], rfl⟩⟩
  · have hc : ({ x with H := x.H.set i ⟨v', E'⟩ } : RefG).cells = x.cells := by
      unfold RefG.cells
      simp only [List.length_set]
    refine o'.perm (by_count fun a => ?_)
    have q1 := count_of hp1 a
    have q2 := count_of hp2 a
    simp only [List.count_append, RH.L] at q1 q2
    simp only [RefG.L, hc, List.count_append, List.cons_append, List.count_cons, List.count_nil]
    omega
  · have hmem : ∀ y ∈ x.H.set i ⟨v', E'⟩, y = ⟨v', E'⟩ ∨ y ∈ x.H := fun y hy => (List.mem_or_eq_of_mem_set hy).symm
    refine ⟨?_, fun y hy => ?_, fun y hy => ?_, fun y hy => ?_, by simpa using hx.hi, hx.slo, hx.shi, hx.av, hx.lv, hx.ids, by simpa using hx.left⟩
    · have e : (x.H.set i ⟨v', E'⟩).flatMap rhC = x.H.flatMap rhC := by
        have e2 : rhC ⟨v', E'⟩ = rhC x.H[i] := by simp only [rhC, rhV, ea, ec, hl]
        rw [flat_set rhC rhC_len _ hi, e2, ← flat_set rhC rhC_len _ hi]
        congr 1
        exact set_self (by simp [hi])
      show VecOk 1 x.hv (x.H.set i ⟨v', E'⟩).length ((x.H.set i ⟨v', E'⟩).flatMap rhC)
      rw [e, List.length_set]
      exact hx.hv
    · rcases hmem y hy with rfl | hy
      · exact hx'
      · exact hx.ev y hy
    · rcases hmem y hy with rfl | hy
      · show (E'.map (·.1)).Nodup
        rw [hk]; exact hx.nd _ (List.getElem_mem hi)
      · exact hx.nd y hy
    · rcases hmem y hy with rfl | hy
      · show (E'.length : Int) ≤ x.size
        rw [hl]; exact hx.room _ (List.getElem_mem hi)
      · exact hx.room y hy
/-- A shootdown waits for others. -/
theorem RefG.setA {v : VecB} {l : List Int} (h : Own w0 Im w (vecL 3 v ++ (x.L ++ Fr))) (hx : RefOk x) {i : Nat} (hi : i < x.A.length) (hv : VecE intC 1 v l) (hok : okTs x.H.length l) :
    ∃ g, vecA x.av = some ⟨g, 0, none⟩ ∧ (w.cell? ⟨g, 0 + i * 3 + 2, none⟩).isSome = true ∧ w.frozen? ⟨g, 0 + i * 3 + 2, none⟩ = false ∧
      ∃ x', Own w0 Im (w.setCell ⟨g, 0 + i * 3 + 2, none⟩ (.slice (vecA v) l.length (vecC v))) (x'.L ++ Fr) ∧ RefOk x' ∧ RTurn x x' x.Es (x.sh.set i (x.A[i].sp, l)) := by
  have hp1 := permG (f := RS.L) hi
  have hp2 := permGset (f := RS.L) hi ⟨v, x.A[i].id, x.A[i].sp, l⟩
  have p1 : (vecL 3 v ++ (x.L ++ Fr)).Perm (vecL 84 x.av ++ (vecL 3 v ++ ([(x.rb, .cells x.cells 71 (0, 0))] ++ (vecL 73 x.hv ++ (x.H.flatMap RH.L ++ (x.A.flatMap RS.L ++ Fr)))))) := by
    refine by_count fun a => ?_
    simp only [RefG.L, List.count_append, List.cons_append, List.count_cons, List.count_nil]
    omega
  obtain ⟨g, e1, c1, c2, av', ea, ec, o', hx'⟩ := vecE_set (f := rsC) (n := 3) rsC_len (h.perm p1) hx.av hi (k := 2) (by omega) (v := rsV ⟨v, x.A[i].id, x.A[i].sp, l⟩) (a := ⟨v, x.A[i].id, x.A[i].sp, l⟩) rfl
  rw [Nat.zero_add]
  refine ⟨g, e1, c1, c2, { x with av := av', A := x.A.set i ⟨v, x.A[i].id, x.A[i].sp, l⟩ }, ?_, ?_, ⟨rfl, rfl, rfl, by simp [RefG.sh, List.map_set]⟩⟩
  · have hc : ({ x with av := av', A := x.A.set i ⟨v, x.A[i].id, x.A[i].sp, l⟩ } : RefG).cells = x.cells := by
      unfold RefG.cells
      simp only [ea, ec, List.length_set]
    refine (o'.perm (L' := vecL 3 x.A[i].v ++ (({ x with av := av', A := x.A.set i ⟨v, x.A[i].id, x.A[i].sp, l⟩ } : RefG).L ++ Fr)) (by_count fun a => ?_)).sub (List.sublist_append_right _ _)
    have q1 := count_of hp1 a
    have q2 := count_of hp2 a
    simp only [List.count_append, RS.L] at q1 q2
    simp only [RefG.L, hc, List.count_append, List.cons_append, List.count_cons, List.count_nil]
    omega
  · have hmem : ∀ y ∈ x.A.set i ⟨v, x.A[i].id, x.A[i].sp, l⟩, y = ⟨v, x.A[i].id, x.A[i].sp, l⟩ ∨ y ∈ x.A := fun y hy => (List.mem_or_eq_of_mem_set hy).symm
    refine ⟨hx.hv, hx.ev, hx.nd, hx.room, hx.hi, hx.slo, hx.shi, hx', fun y hy => ?_, fun j hj => ?_, fun y hy => ?_⟩
    · rcases hmem y hy with rfl | hy
      · exact hv
      · exact hx.lv y hy
    · have hj' : j < x.A.length := by simpa using hj
      show (x.A.set i ⟨v, x.A[i].id, x.A[i].sp, l⟩)[j].id = _
      rw [List.getElem_set]
      by_cases hij : i = j
      · subst hij; rw [if_pos rfl]; exact hx.ids i hi
      · rw [if_neg hij]; exact hx.ids j hj'
    · rcases hmem y hy with rfl | hy
      · exact hok
      · exact hx.left y hy
end
end Go.Proofs.Ytdhdbdpemejpjaa
