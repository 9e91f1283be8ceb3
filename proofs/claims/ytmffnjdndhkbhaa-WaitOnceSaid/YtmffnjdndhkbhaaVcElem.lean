/-
  Vectors of elements: each element stands in n cells.
-/
import Derived.Test.YtmffnjdndhkbhaaVcVec
namespace Go.Vc
open Go
set_option linter.unusedVariables false

theorem flatN {α : Type} {n : Nat} (f : α → List Value) (hf : ∀ a, (f a).length = n) (S : List α) {i : Nat} (hi : i < S.length) (j : Nat) (hj : j < n) : (S.flatMap f)[i * n + j]? = (f S[i])[j]? := by
  induction S generalizing i with
  | nil => cases hi
  | cons p S ih =>
    cases i with
    | zero =>
      rw [List.flatMap_cons, List.getElem?_append_left (by rw [hf]; omega)]
      simp
    | succ i =>
      rw [List.flatMap_cons, List.getElem?_append_right (by rw [hf, Nat.succ_mul]; omega), hf]
      have e : (i + 1) * n + j - n = i * n + j := by rw [Nat.succ_mul]; omega
      rw [e]
      exact ih (by simpa using hi)
theorem flat_len {α : Type} {n : Nat} (f : α → List Value) (hf : ∀ a, (f a).length = n) (S : List α) : (S.flatMap f).length = S.length * n := by
  induction S with
  | nil => simp
  | cons p S ih => rw [List.flatMap_cons, List.length_append, hf, ih, List.length_cons, Nat.succ_mul]; omega
theorem flat_take {α : Type} {n : Nat} (f : α → List Value) (hf : ∀ a, (f a).length = n) (S : List α) (k : Nat) : (S.take k).flatMap f = (S.flatMap f).take (k * n) := by
  induction S generalizing k with
  | nil => simp
  | cons p S ih =>
    cases k with
    | zero => simp
    | succ k =>
      have h1 : k * n + n - n = k * n := by omega
      have h2 : (f p).take (k * n + n) = f p := List.take_of_length_le (by rw [hf]; omega)
      rw [List.take_succ_cons, List.flatMap_cons, List.flatMap_cons, ih, Nat.succ_mul, List.take_append, hf, h1, h2]
theorem flat_drop {α : Type} {n : Nat} (f : α → List Value) (hf : ∀ a, (f a).length = n) (S : List α) (k : Nat) : (S.drop k).flatMap f = (S.flatMap f).drop (k * n) := by
  induction S generalizing k with
  | nil => simp
  | cons p S ih =>
    cases k with
    | zero => simp
    | succ k =>
      have h1 : k * n + n - n = k * n := by omega
      have h2 : (f p).drop (k * n + n) = [] := List.drop_of_length_le (by rw [hf]; omega)
      rw [List.drop_succ_cons, List.flatMap_cons, ih, Nat.succ_mul, List.drop_append, hf, h1, h2, List.nil_append]
theorem flat_set {α : Type} {n : Nat} (f : α → List Value) (hf : ∀ a, (f a).length = n) (S : List α) {i : Nat} (hi : i < S.length) (a : α) : (S.set i a).flatMap f = (S.flatMap f).take (i * n) ++ f a ++ (S.flatMap f).drop (i * n + n) := by
  have e : S.set i a = S.take i ++ a :: S.drop (i + 1) := by
    rw [List.set_eq_take_append_cons_drop, if_pos hi]
  rw [e, List.flatMap_append, List.flatMap_cons, flat_take f hf, flat_drop f hf, Nat.succ_mul, List.append_assoc]

/-- The vector of the elements xs. -/
def VecE {α : Type} (f : α → List Value) (n : Nat) (x : VecB) (xs : List α) : Prop := VecOk n x xs.length (xs.flatMap f)

theorem setMany_toArray (vs : List Value) : ∀ (cs : List Value) (i : Nat), i + vs.length ≤ cs.length → setMany cs.toArray i vs = (cs.take i ++ vs ++ cs.drop (i + vs.length)).toArray := by
  induction vs with
  | nil => intro cs i h; simp [setMany]
  | cons v vs ih =>
    intro cs i h
    simp only [List.length_cons] at h
    simp only [setMany, List.setIfInBounds_toArray]
    rw [ih _ _ (by simp; omega)]
    congr 1
    have hi : i < cs.length := by omega
    have e1 : (cs.set i v).take (i + 1) = cs.take i ++ [v] := by
      rw [List.take_succ_eq_append_getElem (by simpa using hi)]
      simp [List.take_set_of_le (Nat.le_refl i)]
    have e2 : (cs.set i v).drop (i + 1 + vs.length) = cs.drop (i + (v :: vs).length) := by
      rw [List.drop_set_of_lt (by omega)]; simp; congr 1; omega
    rw [e1, e2]; simp

section
variable {α : Type} {f : α → List Value} {n : Nat} {w0 w : World} {Im : Mem} {L : List (Nat × Obj)} {P : Program} {e : Nat} {x : VecB} {xs : List α}

theorem VecE.nil : VecE f n none ([] : List α) := VecOk.nil
theorem VecE.cap (hx : VecE f n x xs) : xs.length ≤ vecC x := hx.2.1
theorem VecE.cap2 (hx : VecE f n x xs) : vecC x ≤ maxLen := hx.2.2.1
theorem VecE.none_nil (hx : VecE f n x xs) (h : vecA x = none) : xs = [] := List.eq_nil_of_length_eq_zero (hx.none_iff h)
theorem VecE.isSome (hx : VecE f n x xs) (h : 0 < xs.length) : ∃ g c cur, x = some (g, c, cur) := by
  cases x with
  | none => have : _ ≤ 0 := hx.cap; omega
  | some y => obtain ⟨g, c, cur⟩ := y; exact ⟨g, c, cur, rfl⟩

theorem vecE_cell (hf : ∀ a, (f a).length = n) (h : Own w0 Im w L) (hm : ∀ p ∈ vecL e x, p ∈ L) (hx : VecE f n x xs) {i : Nat} (hi : i < xs.length) :
    ∃ g, vecA x = some ⟨g, 0, none⟩ ∧ ∀ k, k < n → w.cell? ⟨g, i * n + k, none⟩ = (f xs[i])[k]? := by
  obtain ⟨g, c, cur, rfl⟩ := hx.isSome (by omega)
  refine ⟨g, rfl, fun k hk => ?_⟩
  have hg := h.mem (hm (g, .cells cur.toArray e (0, 0)) (by simp [vecL]))
  have hl := hf xs[i]
  have h1 := flatN f hf xs hi k hk
  rw [List.getElem?_eq_getElem (l := f xs[i]) (by omega)] at h1 ⊢
  exact vec_cell hx hg h1
theorem vecE_at (hf : ∀ a, (f a).length = n) (h : Own w0 Im w L) (hm : ∀ p ∈ vecL e x, p ∈ L) (hx : VecE f n x xs) {i : Nat} (hi : i < xs.length) :
    ∃ g, vecA x = some ⟨g, 0, none⟩ ∧ CellsAt w ⟨g, i * n, none⟩ (f xs[i]) := by
  obtain ⟨g, e1, e2⟩ := vecE_cell hf h hm hx hi
  refine ⟨g, e1, fun k v hk => ?_⟩
  have hk' := (List.getElem?_eq_some_iff.1 hk).1
  rw [hf] at hk'
  rw [add_none, e2 k hk']; exact hk
theorem vecE_cell1 {f : α → Value} (h : Own w0 Im w L) (hm : ∀ p ∈ vecL e x, p ∈ L) (hx : VecE (fun a => [f a]) 1 x xs) {i : Nat} (hi : i < xs.length) :
    ∃ g, vecA x = some ⟨g, 0, none⟩ ∧ w.cell? ⟨g, i, none⟩ = some (f xs[i]) := by
  obtain ⟨g, e1, e2⟩ := vecE_cell (f := fun a => [f a]) (n := 1) (fun _ => rfl) h hm hx hi
  exact ⟨g, e1, by have := e2 0 (by omega); rw [Nat.mul_one, Nat.add_zero] at this; exact this⟩
/-- From the k-th on, as a source. -/
theorem vecE_from (hf : ∀ a, (f a).length = n) (h : Own w0 Im w L) (hm : ∀ p ∈ vecL e x, p ∈ L) (hx : VecE f n x xs) (k : Nat) :
    xs.drop k ≠ [] → ∃ a', subA (vecA x) n (vecC x) k = some a' ∧ CellsAt w a' ((xs.drop k).flatMap f) := by
  intro hne
  have hk : k < xs.length := by
    rcases Nat.lt_or_ge k xs.length with h | h
    · exact h
    · exact absurd (List.drop_of_length_le h) hne
  obtain ⟨g, c, cur, rfl⟩ := hx.isSome (by omega)
  have hc := hx.cap
  have hg := h.mem (hm (g, .cells cur.toArray e (0, 0)) (by simp [vecL]))
  refine ⟨⟨g, k * n, none⟩, ?_, fun j v hj => ?_⟩
  · unfold subA
    show (if c = k then _ else _) = _
    rw [if_neg (by have : xs.length ≤ c := hc; omega)]
    simp [vecA, add_z]
  · rw [add_none]
    rw [flat_drop f hf, List.getElem?_drop] at hj
    exact vec_cell hx hg hj
/-- The first ones, as a source. -/
theorem vecE_first (hf : ∀ a, (f a).length = n) (h : Own w0 Im w L) (hm : ∀ p ∈ vecL e x, p ∈ L) (hx : VecE f n x xs) (k : Nat) :
    xs.take k ≠ [] → ∃ a', vecA x = some a' ∧ CellsAt w a' ((xs.take k).flatMap f) := by
  intro hne
  have h0 : 0 < xs.length := by
    cases xs with
    | nil => simp at hne
    | cons a t => simp
  obtain ⟨g, c, cur, rfl⟩ := hx.isSome h0
  have hg := h.mem (hm (g, .cells cur.toArray e (0, 0)) (by simp [vecL]))
  refine ⟨⟨g, 0, none⟩, rfl, fun j v hj => ?_⟩
  rw [add_z]
  have h2 : (xs.flatMap f)[j]? = some v := by
    rw [flat_take f hf, List.getElem?_take] at hj
    split at hj
    · exact hj
    · cases hj
  exact vec_cell hx hg h2
/-- All of them, as a source. -/
theorem vecE_all (hf : ∀ a, (f a).length = n) (h : Own w0 Im w L) (hm : ∀ p ∈ vecL e x, p ∈ L) (hx : VecE f n x xs) (h0 : 0 < xs.length) (k : Nat) :
    ∃ g, vecA x = some ⟨g, 0, none⟩ ∧ CellsAt w ⟨g, k * n, none⟩ ((xs.drop k).flatMap f) := by
  obtain ⟨g, c, cur, rfl⟩ := hx.isSome h0
  have hg := h.mem (hm (g, .cells cur.toArray e (0, 0)) (by simp [vecL]))
  refine ⟨g, rfl, fun j v hj => ?_⟩
  rw [add_none]
  rw [flat_drop f hf, List.getElem?_drop] at hj
  exact vec_cell hx hg hj
/-- One that is turned. -/
theorem vecE_put (hf : ∀ a, (f a).length = n) (h : Own w0 Im w (vecL e x ++ L)) (hx : VecE f n x xs) {i : Nat} (hi : i < xs.length) (a : α) :
    ∃ g, vecA x = some ⟨g, 0, none⟩ ∧ (∀ j, j < n → (w.cell? (Addr.add ⟨g, i * n, none⟩ j)).isSome = true ∧ w.frozen? (Addr.add ⟨g, i * n, none⟩ j) = false) ∧
      ∃ x', vecA x' = vecA x ∧ vecC x' = vecC x ∧ Own w0 Im (putCells w ⟨g, i * n, none⟩ (f a) 0) (vecL e x' ++ L) ∧ VecE f n x' (xs.set i a) := by
  obtain ⟨g, c, cur, rfl⟩ := hx.isSome (by omega)
  have hx0 := hx
  obtain ⟨h1, h2, h3, h4, h5⟩ := hx
  have h2' : xs.length ≤ c := h2
  have hfl := flat_len f hf xs
  have hin : i * n + n ≤ cur.length := by
    rw [h4]
    have : (i + 1) * n ≤ c * n := Nat.mul_le_mul_right _ (by omega)
    rw [Nat.succ_mul] at this; exact this
  have hin2 : i * n + n ≤ xs.length * n := by
    have : (i + 1) * n ≤ xs.length * n := Nat.mul_le_mul_right _ (by omega)
    rw [Nat.succ_mul] at this; exact this
  refine ⟨g, rfl, h.putOk 0 (b := g) (T := e) (cs := cur.toArray) (by simp [vecL]) (by simpa using hin), some (g, c, cur.take (i * n) ++ f a ++ cur.drop (i * n + n)), rfl, rfl, ?_, ?_⟩
  · have := h.put (f a) 0 (i * n) (b := g) (T := e) (z := (0, 0)) (cs := cur.toArray) (by simp [vecL]) 0
    rw [Nat.add_zero, setMany_toArray _ _ _ (by rw [hf]; exact hin), hf] at this
    simpa [vecL] using this
  · refine ⟨flat_len f hf _, by rw [List.length_set]; exact h2', h3, ?_, ?_⟩
    · simp only [List.length_append, List.length_take, List.length_drop, hf]; omega
    · rw [List.length_set, flat_set f hf xs hi, ← h5]
      have hm1 : i * n ≤ xs.length * n := by omega
      rw [List.take_take, Nat.min_eq_left hm1, List.append_assoc, List.append_assoc, List.take_append, List.take_of_length_le (by simp; omega)]
      congr 1
      have hl1 : (cur.take (i * n)).length = i * n := by simp; omega
      rw [hl1, List.take_append, hf, List.take_of_length_le (by rw [hf]; omega), List.drop_take]
      congr 2
      omega
theorem vecE_set (hf : ∀ a, (f a).length = n) (h : Own w0 Im w (vecL e x ++ L)) (hx : VecE f n x xs) {i : Nat} (hi : i < xs.length) {k : Nat} (hk : k < n) {v : Value} {a : α} (ha : f a = (f xs[i]).set k v) :
    ∃ g, vecA x = some ⟨g, 0, none⟩ ∧ (w.cell? ⟨g, i * n + k, none⟩).isSome = true ∧ w.frozen? ⟨g, i * n + k, none⟩ = false ∧
      ∃ x', vecA x' = vecA x ∧ vecC x' = vecC x ∧ Own w0 Im (w.setCell ⟨g, i * n + k, none⟩ v) (vecL e x' ++ L) ∧ VecE f n x' (xs.set i a) := by
  obtain ⟨g, c, cur, rfl⟩ := hx.isSome (by omega)
  obtain ⟨h1, h2, h3, h4, h5⟩ := hx
  have h2' : xs.length ≤ c := h2
  have hfl := flat_len f hf xs
  have hin2 : i * n + n ≤ xs.length * n := by
    have : (i + 1) * n ≤ xs.length * n := Nat.mul_le_mul_right _ (by omega)
    rw [Nat.succ_mul] at this; exact this
  have hin : i * n + n ≤ cur.length := by
    have : (i + 1) * n ≤ c * n := Nat.mul_le_mul_right _ (by omega)
    rw [Nat.succ_mul] at this; omega
  refine ⟨g, rfl, ?_, h.frozen 0 (cs := cur.toArray) (T := e) (by simp [vecL]) _, some (g, c, cur.set (i * n + k) v), rfl, rfl, ?_, ?_⟩
  · rw [h.cell 0 (cs := cur.toArray) (T := e) (z := (0, 0)) (by simp [vecL])]
    have : i * n + k < cur.length := by omega
    simp [this]
  · have := h.set 0 (b := g) (T := e) (z := (0, 0)) (cs := cur.toArray) (by simp [vecL]) (i * n + k) v
    simpa [vecL] using this
  · refine ⟨flat_len f hf _, by rw [List.length_set]; exact h2', h3, by simpa using h4, ?_⟩
    rw [List.length_set, List.take_set, h5]
    apply List.ext_getElem?
    intro j
    have hpos : 0 < n := by omega
    have hjd : j = (j / n) * n + j % n := by rw [Nat.mul_comm]; exact (Nat.div_add_mod j n).symm
    have hjm : j % n < n := Nat.mod_lt _ hpos
    by_cases hjl : j < xs.length * n
    · have hq : j / n < xs.length := by rw [Nat.div_lt_iff_lt_mul hpos]; exact hjl
      have e1 := flatN f hf (xs.set i a) (i := j / n) (by simpa using hq) (j % n) hjm
      have e0 := flatN f hf xs (i := j / n) hq (j % n) hjm
      rw [← hjd] at e1 e0
      rw [e1, List.getElem?_set]
      by_cases hij : i = j / n
      · subst hij
        rw [List.getElem_set_self, ha, List.getElem?_set]
        by_cases hkj : k = j % n
        · have e2 : (j / n) * n + k = j := by rw [hkj]; exact hjd.symm
          rw [if_pos e2, if_pos (by omega), if_pos hkj, if_pos (by rw [hf]; omega)]
        · have e2 : (j / n) * n + k ≠ j := fun h => hkj (by omega)
          rw [if_neg e2, if_neg hkj, e0]
      · have e2 : i * n + k ≠ j := by
          intro h
          apply hij
          rw [← h, Nat.mul_comm, Nat.mul_add_div hpos, Nat.div_eq_of_lt hk, Nat.add_zero]
        rw [if_neg e2, List.getElem_set_ne hij, e0]
    · have l2 := flat_len f hf (xs.set i a)
      rw [List.length_set] at l2
      rw [List.getElem?_eq_none (by rw [List.length_set]; omega), List.getElem?_eq_none (by omega)]

theorem VecE.take (hf : ∀ a, (f a).length = n) (hx : VecE f n x xs) (k : Nat) : VecE f n x (xs.take k) := by
  obtain ⟨h1, h2, h3, h4⟩ := hx
  have hl : (xs.take k).length ≤ xs.length := by simp; omega
  refine ⟨flat_len f hf _, by omega, h3, ?_⟩
  cases x with
  | none => trivial
  | some y =>
    obtain ⟨g, c, cur⟩ := y
    refine ⟨h4.1, ?_⟩
    have h5 : cur.take (xs.length * n) = xs.flatMap f := h4.2
    by_cases hk : k ≤ xs.length
    · have el : (xs.take k).length = k := by simp; omega
      rw [el, flat_take f hf, ← h5, List.take_take, Nat.min_eq_left (Nat.mul_le_mul_right _ hk)]
    · rw [List.take_of_length_le (l := xs) (by omega)]; exact h5

variable {t ty : Nat} {ti : TypeInfo} {z : Value}
/-- append. -/
theorem vecE_append {bytes : Nat} (ht : P.underlying t = some (.slice e)) (hi : P.info? e = some ti) (hz : ti.zero = some z) (hsize : ti.size = n) (hby : ti.bytes = bytes) (hzs : z.cells.size = n) (hf : ∀ a, (f a).length = n) (h1 : ∀ a, ∀ u ∈ f a, u.oneCell' = true)
    (h : Own w0 Im w (vecL e x ++ L)) (hx : VecE f n x xs) {a : Option Addr} {c : Nat} {ys : List α} (hnews : ys ≠ [] → ∃ a', a = some a' ∧ CellsAt w a' (ys.flatMap f))
    (hbytes : (xs.length + ys.length) * bytes ≤ 140737488355328) (h63 : xs.length + ys.length ≤ maxLen) :
    ∃ x' w', (Builtin.append_ #[t, t] ty #[.slice (vecA x) xs.length (vecC x), .slice a ys.length c]).run P w = .ok (.slice (vecA x') (xs.length + ys.length) (vecC x')) w' ∧ Own w0 Im w' (vecL e x' ++ L) ∧ VecE f n x' (xs ++ ys) := by
  cases hy : ys with
  | nil =>
    have := run_append_0 (P := P) (w := w) (ty := ty) (a := vecA x) (b := a) (c := vecC x) (c2 := c) (n := xs.length) ht hi hx.cap
    exact ⟨x, w, by simpa using this, h, by simpa using hx⟩
  | cons y ys' =>
    rw [← hy]
    obtain ⟨a', ea, hc⟩ := hnews (by rw [hy]; simp)
    subst ea
    obtain ⟨x', w', r1, r2, r3⟩ := own_append (ty := ty) ht hi hz hsize hby hzs h hx (a := a') (m := ys.length) (c := c) (news := ys.flatMap f) (flat_len f hf ys) hc
      (by intro u hu; obtain ⟨q, _, hq⟩ := List.mem_flatMap.1 hu; exact h1 q u hq) (by rw [hy]; simp) hbytes h63
    refine ⟨x', w', r1, r2, ?_⟩
    unfold VecE
    rw [List.length_append, List.flatMap_append]; exact r3
/-- append onto a beginning of itself, in the room that there is. -/
theorem vecE_move (ht : P.underlying t = some (.slice e)) (hi : P.info? e = some ti) (hsize : ti.size = n) (hf : ∀ a, (f a).length = n) (h1 : ∀ a, ∀ u ∈ f a, u.oneCell' = true)
    (h : Own w0 Im w (vecL e x ++ L)) (hx : VecE f n x xs) {k : Nat} {a : Option Addr} {c : Nat} {ys : List α} (hk : k + ys.length ≤ xs.length) (hnews : ys ≠ [] → ∃ a', a = some a' ∧ CellsAt w a' (ys.flatMap f)) :
    ∃ x' w', (Builtin.append_ #[t, t] ty #[.slice (vecA x) k (vecC x), .slice a ys.length c]).run P w = .ok (.slice (vecA x) (k + ys.length) (vecC x)) w' ∧ vecA x' = vecA x ∧ vecC x' = vecC x ∧ Own w0 Im w' (vecL e x' ++ L) ∧ VecE f n x' (xs.take k ++ ys ++ xs.drop (k + ys.length)) := by
  subst hsize
  have hcap := hx.cap
  cases hy : ys with
  | nil =>
    have := run_append_0 (P := P) (w := w) (ty := ty) (a := vecA x) (b := a) (c := vecC x) (c2 := c) (n := k) ht hi (by omega)
    refine ⟨x, w, by simpa using this, rfl, rfl, h, ?_⟩
    have e : xs.take k ++ ([] : List α) ++ xs.drop (k + ([] : List α).length) = xs := by simp
    rw [e]; exact hx
  | cons y ys' =>
    rw [← hy]
    obtain ⟨a', ea, hc⟩ := hnews (by rw [hy]; simp)
    subst ea
    have hpos : 0 < ys.length := by rw [hy]; simp
    obtain ⟨g, cap, cur, rfl⟩ := hx.isSome (by omega)
    have hx0 := hx
    obtain ⟨g1, g2, g3, g4, g5⟩ := hx
    have hcap' : xs.length ≤ cap := hcap
    have hg := h.get 0 (b := g) (o := .cells cur.toArray e (0, 0)) (by simp [vecL])
    have hml : (k + ys.length) * ti.size ≤ cap * ti.size := Nat.mul_le_mul_right _ (by omega)
    have hml2 : (k + ys.length) * ti.size ≤ xs.length * ti.size := Nat.mul_le_mul_right _ (by omega)
    have hml3 : xs.length * ti.size ≤ cap * ti.size := Nat.mul_le_mul_right _ (by omega)
    rw [Nat.add_mul] at hml hml2
    have hfl := flat_len f hf ys
    have hr := run_append_room (P := P) w t ty e ti ht hi g k cap cur.toArray hg a' ys.length c (ys.flatMap f) hfl hc (by intro u hu; obtain ⟨q, _, hq⟩ := List.mem_flatMap.1 hu; exact h1 q u hq) (by omega) (by rw [hfl, List.size_toArray, g4]; exact hml)
    refine ⟨some (g, cap, cur.take (k * ti.size) ++ ys.flatMap f ++ cur.drop (k * ti.size + (ys.flatMap f).length)), _, hr, rfl, rfl, ?_, ?_⟩
    · have := h.setRow 0 (b := g) (cs := cur.toArray) (T := e) (z := (0, 0)) (cs' := (cur.take (k * ti.size) ++ ys.flatMap f ++ cur.drop (k * ti.size + (ys.flatMap f).length)).toArray) (by simp [vecL])
      simpa [vecL] using this
    · have hl : (xs.take k ++ ys ++ xs.drop (k + ys.length)).length = xs.length := by simp; omega
      refine ⟨flat_len f hf _, by rw [hl]; exact hcap', g3, ?_, ?_⟩
      · simp only [List.length_append, List.length_take, List.length_drop, hfl]; omega
      · rw [hl, List.flatMap_append, List.flatMap_append, flat_take f hf, flat_drop f hf, ← g5, hfl]
        rw [List.take_take, Nat.min_eq_left (by omega), List.append_assoc, List.append_assoc, List.take_append, List.take_of_length_le (by simp; omega)]
        congr 1
        have hl1 : (cur.take (k * ti.size)).length = k * ti.size := by simp; omega
        rw [hl1, List.take_append, hfl, List.take_of_length_le (by rw [hfl]; omega), List.drop_take, Nat.add_mul]
        congr 2
        omega
/-- One cell of an element that is turned: what then reads. -/
theorem vecE_cellset {g c : Nat} {cur : List Value} (hf : ∀ a, (f a).length = n) (hx : VecE f n (some (g, c, cur)) xs) {i : Nat} (hi : i < xs.length) {k : Nat} (hk : k < n) {v : Value} {a : α} (ha : f a = (f xs[i]).set k v) :
    VecE f n (some (g, c, cur.set (i * n + k) v)) (xs.set i a) := by
  let w : World := { (default : World) with heap := (Array.replicate g (Obj.cells #[] 0 (0, 0))).push (.cells cur.toArray 0 (0, 0)) }
  have hw : w.heap[g]? = some (.cells cur.toArray 0 (0, 0)) := by
    show ((Array.replicate g (Obj.cells #[] 0 (0, 0))).push _)[g]? = _
    rw [Array.getElem?_push, if_pos (by simp)]
  have ho : Own w (fun _ => none) w (vecL 0 (some (g, c, cur)) ++ []) :=
    ⟨rfl, rfl, rfl, Nat.le_refl _, fun _ _ h => (by cases h), by simp [vecL], fun p hp => by simp [vecL] at hp; subst hp; exact hw, fun _ _ => rfl⟩
  obtain ⟨g2, e1, _, _, x', e2, e3, o, hx'⟩ := vecE_set (e := 0) (L := []) hf ho hx hi hk ha
  cases x' with
  | none => cases e2
  | some y =>
    obtain ⟨g', c', cur'⟩ := y
    have eg : g' = g := by have : (some (⟨g', 0, none⟩ : Addr)) = some ⟨g, 0, none⟩ := e2; simpa using this
    have eg2 : g = g2 := by have : (some (⟨g, 0, none⟩ : Addr)) = some ⟨g2, 0, none⟩ := e1; simpa using this
    have ec : c' = c := e3
    subst eg ec eg2
    have h1 := o.get 0 (b := g') (o := .cells cur'.toArray 0 (0, 0)) (by simp [vecL])
    have h2 := heap_setCell (k := i * n + k) (v := v) (ho.get 0 (b := g') (o := .cells cur.toArray 0 (0, 0)) (by simp [vecL]))
    rw [h1] at h2
    have h3 : cur' = cur.set (i * n + k) v := by simpa using h2
    rw [← h3]; exact hx'
/-- clear(s[k:]), then s[:k]. -/
theorem vecE_clear (ht : P.underlying t = some (.slice e)) (hi : P.info? e = some ti) (hz : ti.zero = some z) (hzs : z.cells.size = n) (hz1 : ∀ u ∈ z.cells.toList, u.oneCell' = true) (hn : 0 < n) (hf : ∀ a, (f a).length = n)
    (h : Own w0 Im w (vecL e x ++ L)) (hx : VecE f n x xs) (k : Nat) (hk : k ≤ xs.length) :
    ∃ x' w', (Builtin.clear_ #[t] ty #[.slice (subA (vecA x) n (vecC x) k) (xs.length - k) (vecC x - k)]).run P w = .ok (.tuple #[]) w' ∧ vecA x' = vecA x ∧ vecC x' = vecC x ∧ Own w0 Im w' (vecL e x' ++ L) ∧ VecE f n x' (xs.take k) := by
  by_cases hz0 : xs.length - k = 0
  · rw [hz0]
    exact ⟨x, w, run_clear_0 ht, rfl, rfl, h, hx.take hf k⟩
  · obtain ⟨g, c, cur, rfl⟩ := hx.isSome (by omega)
    have hx0 := hx
    obtain ⟨h1, h2, h3, h4, h5⟩ := hx
    have h2' : xs.length ≤ c := h2
    have ea : subA (vecA (some (g, c, cur))) n (vecC (some (g, c, cur))) k = some ⟨g, k * n, none⟩ := by
      unfold subA
      show (if c = k then _ else _) = _
      rw [if_neg (by omega)]
      simp [vecA, add_z]
    rw [ea]
    have hg := h.get 0 (b := g) (o := .cells cur.toArray e (0, 0)) (by simp [vecL])
    have hle : xs.length * n ≤ c * n := Nat.mul_le_mul_right _ h2'
    have hkn : k * n + (xs.length - k) * n = xs.length * n := by rw [← Nat.add_mul]; congr 1; omega
    have hcl := run_clear_row (P := P) (t := t) (ty := ty) (e := e) (size := n) (z := z) ht hi hz hzs hz1 (w := w) (g := g) (o := k * n) (n := xs.length - k) (c := c - k) hg (by omega) (by rw [h4, hkn]; exact hle)
    have hzl : (Builtin.zeroCells z.cells (xs.length - k)).toList.length = (xs.length - k) * n := by rw [Array.length_toList, size_zeroCells, hzs]
    refine ⟨some (g, c, cur.take (k * n) ++ (Builtin.zeroCells z.cells (xs.length - k)).toList ++ cur.drop (k * n + (xs.length - k) * n)), _, hcl, rfl, rfl, ?_, ?_⟩
    · have := h.setRow 0 (b := g) (cs := cur.toArray) (T := e) (z := (0, 0)) (cs' := (cur.take (k * n) ++ (Builtin.zeroCells z.cells (xs.length - k)).toList ++ cur.drop (k * n + (xs.length - k) * n)).toArray) (by simp [vecL])
      simpa [vecL] using this
    · have hel : (xs.take k).length = k := by simp; omega
      refine ⟨flat_len f hf _, by rw [hel]; show k ≤ c; omega, h3, ?_, ?_⟩
      · simp only [List.length_append, List.length_take, List.length_drop, hzl]; omega
      · rw [hel, List.append_assoc, List.take_append_of_le_length (by simp; omega), List.take_take, Nat.min_self, flat_take f hf, ← h5, List.take_take, Nat.min_eq_left (by omega)]
end

/-- All cells of a block are written. -/
theorem Own.putAll {w0 w : World} {Im : Mem} {L : List (Nat × Obj)} (h : Own w0 Im w L) {k b T : Nat} {z : Nat × Nat} {cs : List Value} (hk : L[k]? = some (b, .cells cs.toArray T z)) (vs : List Value) (hl : vs.length = cs.length) :
    Own w0 Im (putCells w ⟨b, 0, none⟩ vs 0) (L.set k (b, .cells vs.toArray T z)) := by
  have := h.put vs k 0 hk 0
  rw [Nat.add_zero, setMany_toArray vs cs 0 (by omega), List.take_zero, List.nil_append, List.drop_of_length_le (by omega), List.append_nil] at this
  exact this
theorem at_cb {P : Program} {f n m : Nat} {w : World} {R : Ending → World → Prop} (e : n = m) {vs : List Value} (H : Calls P f (Value.pointer (some ⟨n, 0, none⟩) :: vs).toArray w R) : Calls P f (Value.pointer (some ⟨m, 0, none⟩) :: vs).toArray w R := e ▸ H

/-! ### what DeleteFunc does to its list -/
section
variable {α : Type} {p : α → Bool}
theorem kept_yes {ks : List α} {j : Nat} (hj : j < ks.length) (h : p ks[j] = true) : ((ks.take (j + 1)).filter fun k => !p k) = ((ks.take j).filter fun k => !p k) := by
  rw [List.take_succ_eq_append_getElem hj, List.filter_append]; simp [h]
theorem kept_no {ks : List α} {j : Nat} (hj : j < ks.length) (h : p ks[j] = false) : ((ks.take (j + 1)).filter fun k => !p k) = ((ks.take j).filter fun k => !p k) ++ [ks[j]] := by
  rw [List.take_succ_eq_append_getElem hj, List.filter_append]; simp [h]
theorem kept_first {ks : List α} {i : Nat} (hi : i < ks.length) (hp : p ks[i] = true) (hb : ∀ j (hj : j < i), p (ks[j]'(by omega)) = false) : ((ks.take (i + 1)).filter fun k => !p k) = ks.take i := by
  rw [kept_yes hi hp]
  refine List.filter_eq_self.2 fun k hk => ?_
  obtain ⟨j, hj, rfl⟩ := List.mem_iff_getElem.1 hk
  have hj' : j < i := by simp at hj; omega
  simp [hb j hj']
theorem kept_set (K mid : List α) (a : α) (rest : List α) : ∃ mid', mid'.length = mid.length ∧ (K ++ mid ++ a :: rest).set K.length a = K ++ [a] ++ mid' ++ rest := by
  cases mid with
  | nil => exact ⟨[], rfl, by simp⟩
  | cons m mid => exact ⟨mid ++ [a], by simp, by simp⟩
end
end Go.Vc
