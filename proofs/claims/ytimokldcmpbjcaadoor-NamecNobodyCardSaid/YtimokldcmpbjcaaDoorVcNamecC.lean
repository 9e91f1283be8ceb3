/- A part of the proof: lemmas. -/
import Derived.Test.YtimokldcmpbjcaaDoorVcNamecB
import Derived.Test.YtimokldcmpbjcaaDoorVcKeys
namespace Go.Proofs.YtimokldcmpbjcaaDoor
open Go Go.Vc
set_option maxRecDepth 100000
set_option linter.unusedVariables false

def i64s (ns : List Int) : List Value := ns.map (Value.int .i64 ·)
def bools (bs : List Bool) : List Value := bs.map (Value.bool ·)
/-- A domain of rcu. -/
structure DomG where
  db : Nat
  nb : Nat
  nest : List Int
  pb : Nat
  passed : List Bool
  epoch : Int
  wv : VecB
  waits : List (Int × Int)
def wcells (p : Int × Int) : List Value := [.int .i64 p.1, .int .i64 p.2]
def DomG.cells (d : DomG) : Array Value := #[.slice (some ⟨d.nb, 0, none⟩) d.nest.length d.nest.length, .slice (some ⟨d.pb, 0, none⟩) d.passed.length d.passed.length, .int .i64 d.epoch, .slice (vecA d.wv) d.waits.length (vecC d.wv)]
def DomG.L (d : DomG) : List (Nat × Obj) := (d.db, .cells d.cells 75 (0, 0)) :: (d.nb, .cells (i64s d.nest).toArray 3 (0, 0)) :: (d.pb, .cells (bools d.passed).toArray 4 (0, 0)) :: vecL 86 d.wv
structure DomOk (d : DomG) : Prop where
  vec : VecOk 2 d.wv d.waits.length (d.waits.flatMap wcells)
  lo : 1 ≤ d.nest.length
  hi : d.nest.length ≤ 8
  len : d.passed.length = d.nest.length

section
variable {w0 w : World} {Im : Mem} {Fr L : List (Nat × Obj)} {d : DomG} {R : Ending → World → Prop}

theorem vec_at {e : Nat} {x : VecB} {n : Nat} {xs : List Value} (h : Own w0 Im w L) (hm : ∀ p ∈ vecL e x, p ∈ L) (hx : VecOk 1 x n xs) {j : Nat} {u : Value} (hj : xs[j]? = some u) : ∃ b, vecA x = some ⟨b, 0, none⟩ ∧ w.cell? ⟨b, j, none⟩ = some u := by
  cases x with
  | none =>
    have h0 := hx.none_iff rfl
    have hl := hx.len
    have := (List.getElem?_eq_some_iff.1 hj).1
    omega
  | some y =>
    obtain ⟨g, c, cur⟩ := y
    exact ⟨g, rfl, vec_cell hx (h.mem (hm (g, .cells cur.toArray e (0, 0)) (by simp [vecL]))) hj⟩
theorem vec_at2 {e : Nat} {x : VecB} {n : Nat} {xs : List Value} (h : Own w0 Im w L) (hm : ∀ p ∈ vecL e x, p ∈ L) (hx : VecOk 2 x n xs) {i : Nat} {u v : Value} (hj : xs[i * 2]? = some u) (hj2 : xs[i * 2 + 1]? = some v) : ∃ b, vecA x = some ⟨b, 0, none⟩ ∧ CellsAt w ⟨b, i * 2, none⟩ [u, v] := by
  cases x with
  | none =>
    have h0 := hx.none_iff rfl
    have hl := hx.len
    have := (List.getElem?_eq_some_iff.1 hj).1
    omega
  | some y =>
    obtain ⟨g, c, cur⟩ := y
    have hg := h.mem (hm (g, .cells cur.toArray e (0, 0)) (by simp [vecL]))
    refine ⟨g, rfl, fun k z hk => ?_⟩
    rw [add_none]
    match k with
    | 0 => simp at hk; subst hk; exact vec_cell hx hg hj
    | 1 => simp at hk; subst hk; exact vec_cell hx hg hj2
    | k + 2 => simp at hk
theorem flat2 {α : Type} (f : α → List Value) (hf : ∀ a, (f a).length = 2) (S : List α) {i : Nat} (hi : i < S.length) (j : Nat) (hj : j < 2) : (S.flatMap f)[i * 2 + j]? = (f S[i])[j]? := by
  induction S generalizing i with
  | nil => cases hi
  | cons p S ih =>
    cases i with
    | zero =>
      rw [List.flatMap_cons, List.getElem?_append_left (by rw [hf]; omega)]
      simp
    | succ i =>
      rw [List.flatMap_cons, List.getElem?_append_right (by rw [hf]; omega), hf]
      have e : (i + 1) * 2 + j - 2 = i * 2 + j := by omega
      rw [e]
      exact ih (by simpa using hi)

/-- (*Domain).made -/
theorem s40 (h : Own w0 Im w (d.L ++ Fr)) (hd : DomOk d) (hR : R (.returned (.bool true)) w) : Calls Tryd.prog 40 #[.pointer (some ⟨d.db, 0, none⟩)] w R := by
  apply vc40
  unfold Vc40
  have := hd.lo
  have e : decide ((0 : Int) < ((d.nest.length : Nat) : Int)) = true := by simp; omega
  exact ⟨fun _ => ⟨_, _, rfl, _, _, _, h.cell 0 rfl _, by rw [e]; exact hR⟩, fun e => (by cases e)⟩
/-- (*Domain).is -/
theorem s42 (h : Own w0 Im w (d.L ++ Fr)) (hd : DomOk d) {i : Int} (hR : R (.returned (.bool (decide (0 ≤ i ∧ i < d.nest.length)))) w) : Calls Tryd.prog 42 #[.pointer (some ⟨d.db, 0, none⟩), .int .i64 i] w R := by
  apply vc42
  unfold Vc42
  refine s40 h hd ⟨_, rfl, fun _ => ⟨fun h0 => ⟨_, _, rfl, _, _, _, h.cell 0 rfl _, ?_⟩, fun h0 => ?_⟩, fun e => (by cases e)⟩
  · have e : decide (0 ≤ i ∧ i < (d.nest.length : Int)) = decide (i < ((d.nest.length : Nat) : Int)) := by simp [h0]
    rw [e] at hR; exact hR
  · have e : decide (0 ≤ i ∧ i < (d.nest.length : Int)) = false := by simp [h0]
    rw [e] at hR; exact hR

/-- slices.Contains at ints -/
theorem s48 {a : Option Addr} {ns : List Int} {k : Nat} {v : Int} (hl : ns.length ≤ 4611686018427387904) (hc : ∀ j x, ns[j]? = some x → ∃ b o, a = some ⟨b, o, none⟩ ∧ w.cell? ⟨b, o + j, none⟩ = some (.int .i64 x)) (hR : R (.returned (.bool (decide (v ∈ ns)))) w) :
    Calls Tryd.prog 48 #[.slice a ns.length k, .int .i64 v] w R := by
  apply vc48
  unfold Vc48
  apply vc61
  unfold Vc61
  refine ⟨fun m i w' => ∃ j, m = ns.length - j ∧ i = (j : Nat) ∧ j ≤ ns.length ∧ w' = w ∧ v ∉ ns.take j, ⟨_, 0, rfl, rfl, by omega, rfl, by simp⟩, ?_⟩
  rintro m i w' ⟨j, rfl, rfl, hj, hw, hn⟩
  subst hw
  refine ⟨fun hlt => ?_, fun hge => ⟨_, rfl, ?_⟩⟩
  · have hj' : j < ns.length := by omega
    obtain ⟨b, o, ea, hcell⟩ := hc j ns[j] (by simp [hj'])
    have ej : ((j : Nat) : Int).toNat = j := by omega
    refine ⟨_, _, ea, by omega, hlt, _, by rw [ej]; exact hcell, fun e => ⟨_, rfl, ?_⟩, fun e r9 e9 => ?_⟩
    · have e1 : decide (v ∈ ns) = true := by simp; rw [e]; exact List.getElem_mem hj'
      have e2 : decide ((0 : Int) ≤ ((j : Nat) : Int)) = true := by simp
      rw [e1] at hR; rw [e2]; exact hR
    · rw [wrap_id (by omega) (by omega)] at e9
      refine ⟨_, by omega, j + 1, rfl, by omega, by omega, rfl, ?_⟩
      rw [List.take_succ_eq_append_getElem hj', List.mem_append]
      rintro (h | h)
      · exact hn h
      · simp at h; exact e h
  · have e : j = ns.length := by omega
    subst e
    rw [List.take_length] at hn
    have e1 : decide (v ∈ ns) = false := by simp [hn]
    rw [e1] at hR; exact hR

/-- (*Domain).Waiting -/
theorem s21 (h : Own w0 Im w (d.L ++ Fr)) (hd : DomOk d) (hb : d.waits.length ≤ 8796093022208)
    (hR : ∀ w' x, Own w0 Im w' (vecL 3 x ++ (d.L ++ Fr)) → VecOk 1 x d.waits.length (i64s (d.waits.map (·.1))) → R (.returned (.slice (vecA x) d.waits.length (vecC x))) w') :
    Calls Tryd.prog 21 #[.pointer (some ⟨d.db, 0, none⟩)] w R := by
  apply vc21
  unfold Vc21
  refine s40 h hd ⟨_, rfl, fun _ => ⟨_, _, rfl, _, _, _, h.cell 0 rfl _,
    fun m a l cc v w' => ∃ x k, a = vecA x ∧ cc = vecC x ∧ l = k ∧ v = (k : Nat) ∧ m = d.waits.length - k ∧ k ≤ d.waits.length ∧ Own w0 Im w' (vecL 3 x ++ (d.L ++ Fr)) ∧ VecOk 1 x k (i64s ((d.waits.take k).map (·.1))),
    ⟨_, none, 0, rfl, rfl, rfl, rfl, rfl, by omega, h, VecOk.nil⟩, ?_⟩, fun e => (by cases e)⟩
  rintro m a l cc v w11 ⟨x, k, rfl, rfl, rfl, rfl, rfl, hk, h11, hx⟩
  refine ⟨fun hlt => ?_, fun hge => ?_⟩
  · have hk' : l < d.waits.length := by omega
    have f1 := flat2 wcells (fun _ => rfl) d.waits hk' 0 (by omega)
    have f2 := flat2 wcells (fun _ => rfl) d.waits hk' 1 (by omega)
    obtain ⟨g, ea, hcells⟩ := vec_at2 (e := 86) h11 (fun p hp => by simp [DomG.L, hp]) hd.vec (i := l) (u := .int .i64 d.waits[l].1) (v := .int .i64 d.waits[l].2) f1 f2
    have et : ((l : Nat) : Int).toNat = l := by omega
    refine ⟨_, _, ea, by omega, hlt, _, _, by rw [et, Nat.zero_add]; exact hcells, fun b16 w17 e16 e17 => ?_⟩
    have h17 := h11.alloc' e16 e17
    refine ⟨h17.putOk 0 rfl (by simp), fun w18 e18 => ?_⟩
    have h18 : Own w0 Im w18 ((b16, .cells #[.int .i64 d.waits[l].1, .int .i64 d.waits[l].2] 86 (0, 0)) :: (vecL 3 x ++ (d.L ++ Fr))) := by rw [e18]; exact h17.put [.int .i64 d.waits[l].1, .int .i64 d.waits[l].2] 0 0 rfl 0
    refine ⟨_, h18.cell 0 rfl _, fun b20 w21 e20 e21 => ?_⟩
    have h21 := (h18.tail rfl).alloc' e20 e21
    obtain ⟨x', w22, hr, ho, hx'⟩ := own_append (t := 38) (ty := 38) (e := 3) (bytes := 8) (size := 1) (z := .int .i64 0) (a := ⟨b20, 0, none⟩) (m := 1) (c := 1) (news := [.int .i64 d.waits[l].1]) Tryd.underlying38 Tryd.type3 rfl rfl rfl rfl (h21.perm (perm_l [_] (vecL 3 x) _)) hx rfl
      (h21.cellsAt 0 rfl (fun j v hj => by simpa using hj)) (by intro u hu; simp at hu; subst hu; rfl) (by omega) (by omega) (by simp only [maxLen]; omega)
    refine ⟨_, _, _, w22, hr, fun r24 e24 => ?_⟩
    rw [wrap_id (by omega) (by omega)] at e24
    refine ⟨_, by omega, x', l + 1, rfl, rfl, rfl, by omega, rfl, by omega, (ho.perm (perm_l [_] (vecL 3 x') _).symm).tail rfl, ?_⟩
    have e : i64s ((d.waits.take (l + 1)).map (·.1)) = i64s ((d.waits.take l).map (·.1)) ++ [.int .i64 d.waits[l].1] := by
      unfold i64s; rw [List.take_succ_eq_append_getElem hk', List.map_append, List.map_append]; rfl
    rw [e]; exact hx'
  · have e : l = d.waits.length := by omega
    subst e
    rw [List.take_length] at hx
    exact hR w11 x h11 hx

/-- (*Domain).Defer of a new one. -/
theorem s37 (h : Own w0 Im w (d.L ++ Fr)) (hd : DomOk d) {id : Int} (hb : d.waits.length < 4398046511104)
    (hin : id ∈ d.waits.map (·.1) → ∀ w', Own w0 Im w' (d.L ++ Fr) → R (.returned (.int .i64 101)) w')
    (hR : id ∉ d.waits.map (·.1) → ∀ w' x, Own w0 Im w' (({ d with wv := x, waits := d.waits ++ [(id, d.epoch)] } : DomG).L ++ Fr) → DomOk { d with wv := x, waits := d.waits ++ [(id, d.epoch)] } → R (.returned (.int .i64 0)) w') :
    Calls Tryd.prog 37 #[.pointer (some ⟨d.db, 0, none⟩), .int .i64 id] w R := by
  apply vc37
  unfold Vc37
  refine s40 h hd ⟨_, rfl, fun _ => ?_, fun e => (by cases e)⟩
  refine s21 h hd (by omega) fun w7 x h7 hx => ⟨_, _, _, rfl, ?_⟩
  have hl : (d.waits.map (·.1)).length = d.waits.length := by simp
  rw [← hl]
  refine s48 (by rw [hl]; omega) (fun j v hj => ?_) ⟨_, rfl, fun e => ?_, fun e => ?_⟩
  · obtain ⟨b, e1, e2⟩ := vec_at (e := 3) h7 (fun p hp => by simp [hp]) hx (j := j) (u := .int .i64 v) (by simp only [i64s, List.getElem?_map] at hj ⊢; rw [hj]; rfl)
    exact ⟨b, 0, e1, by rw [Nat.zero_add]; exact e2⟩
  · exact hin (by simpa using e) w7 (h7.sub (List.sublist_append_right _ _))
  · have hni : id ∉ d.waits.map (·.1) := by simpa using e
    have h7 := (h7.sub (List.sublist_append_right _ _)).drew
    refine ⟨_, _, rfl, _, _, _, h7.cell 0 rfl _, _, h7.cell 0 rfl _, fun b16 w17 e16 e17 => ?_⟩
    have h17 := h7.alloc' e16 e17
    refine ⟨h17.cell 1 rfl _, h17.cell 1 rfl _, ?_⟩
    obtain ⟨x', w18, hr, ho, hx'⟩ := own_append (t := 73) (ty := 73) (e := 86) (bytes := 16) (size := 2) (z := .agg #[.int .i64 0, .int .i64 0]) (a := ⟨b16, 0, none⟩) (m := 1) (c := 1) (news := [.int .i64 id, .int .i64 d.epoch]) Tryd.underlying73 Tryd.type86 rfl rfl rfl rfl (h17.perm (perm_l [_, _, _, _] (vecL 86 d.wv) Fr)) hd.vec rfl
      (h17.cellsAt 0 rfl (fun j v hj => by simpa using hj)) (by intro u hu; simp at hu; rcases hu with rfl | rfl <;> rfl) (by omega) (by omega) (by simp only [maxLen]; omega)
    refine ⟨_, _, _, w18, hr, ?_⟩
    have h18 := (ho.perm (perm_l [_, _, _, _] (vecL 86 x') Fr).symm).tail rfl
    refine ⟨h18.cell 0 rfl _, by rw [h18.cell 0 rfl _]; rfl, h18.frozen 0 rfl _, fun w20 e20 => ?_⟩
    have h20 := h18.set 0 rfl (0 + 3) (.slice (vecA x') (d.waits.length + 1) (vecC x'))
    rw [← e20] at h20
    refine hR hni w20 x' ?_ ⟨?_, hd.lo, hd.hi, hd.len⟩
    · unfold DomG.L DomG.cells
      simp only [List.length_append, List.length_cons, List.length_nil, Nat.zero_add]
      exact h20
    · simp only [List.length_append, List.length_cons, List.length_nil, Nat.zero_add, List.flatMap_append, List.flatMap_cons, List.flatMap_nil, List.append_nil]
      exact hx'
end
end Go.Proofs.YtimokldcmpbjcaaDoor
