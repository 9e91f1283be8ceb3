/- A part of the proof: lemmas. -/
import Derived.Test.YtimokldcmpbjcaaDoorVcNamecM
namespace Go.Proofs.YtimokldcmpbjcaaDoor
open Go Go.Vc
set_option maxRecDepth 100000
set_option linter.unusedVariables false

def boolC (b : Bool) : List Value := [.bool b]
def waitC (p : Int × Int) : List Value := wcells p
section
variable {w0 w : World} {Im : Mem} {Fr L : List (Nat × Obj)} {d : DomG} {R : Ending → World → Prop}

theorem DomG.setNest (h : Own w0 Im w (d.L ++ Fr)) {i : Nat} (hi : i < d.nest.length) (v : Int) :
    (w.cell? ⟨d.nb, i, none⟩).isSome = true ∧ w.frozen? ⟨d.nb, i, none⟩ = false ∧ Own w0 Im (w.setCell ⟨d.nb, i, none⟩ (.int .i64 v)) (({ d with nest := d.nest.set i v } : DomG).L ++ Fr) := by
  refine ⟨by rw [h.cell 1 rfl]; simp [i64s, hi], h.frozen 1 rfl _, ?_⟩
  have h2 := h.set 1 rfl i (.int .i64 v)
  unfold DomG.L DomG.cells
  simp only [List.length_set]
  have e : (i64s d.nest).toArray.setIfInBounds i (.int .i64 v) = (i64s (d.nest.set i v)).toArray := by simp [i64s, List.map_set]
  rw [e] at h2
  exact h2
theorem DomG.setPassed (h : Own w0 Im w (d.L ++ Fr)) {i : Nat} (hi : i < d.passed.length) (v : Bool) :
    (w.cell? ⟨d.pb, i, none⟩).isSome = true ∧ w.frozen? ⟨d.pb, i, none⟩ = false ∧ Own w0 Im (w.setCell ⟨d.pb, i, none⟩ (.bool v)) (({ d with passed := d.passed.set i v } : DomG).L ++ Fr) := by
  refine ⟨by rw [h.cell 2 rfl]; simp [bools, hi], h.frozen 2 rfl _, ?_⟩
  have h2 := h.set 2 rfl i (.bool v)
  unfold DomG.L DomG.cells
  simp only [List.length_set]
  have e : (bools d.passed).toArray.setIfInBounds i (.bool v) = (bools (d.passed.set i v)).toArray := by simp [bools, List.map_set]
  rw [e] at h2
  exact h2
theorem nest_cell (h : Own w0 Im w (d.L ++ Fr)) {i : Nat} (hi : i < d.nest.length) : w.cell? ⟨d.nb, i, none⟩ = some (.int .i64 d.nest[i]) := by
  rw [h.cell 1 rfl]; simp [i64s, hi]
theorem DomOk.nest (hd : DomOk d) (i : Nat) (v : Int) : DomOk { d with nest := d.nest.set i v } := ⟨hd.vec, by simpa using hd.lo, by simpa using hd.hi, by simpa using hd.len⟩
theorem DomOk.passed (hd : DomOk d) (i : Nat) (v : Bool) : DomOk { d with passed := d.passed.set i v } := ⟨hd.vec, hd.lo, hd.hi, by simpa using hd.len⟩

/-- (*Domain).Enter -/
theorem s23 (h : Own w0 Im w (d.L ++ Fr)) (hd : DomOk d) {i : Nat} (hi : i < d.nest.length) (h0 : 0 ≤ d.nest[i]) (hn : d.nest[i] < 16)
    (hR : ∀ w', Own w0 Im w' (({ d with nest := d.nest.set i (d.nest[i] + 1) } : DomG).L ++ Fr) → R (.returned (.int .i64 0)) w') :
    Calls Tryd.prog 23 #[.pointer (some ⟨d.db, 0, none⟩), .int .i64 i] w R := by
  apply vc23
  unfold Vc23
  have ei : ((i : Nat) : Int).toNat = i := by omega
  have et : decide (0 ≤ ((i : Nat) : Int) ∧ ((i : Nat) : Int) < d.nest.length) = true := by simp; omega
  refine s40 h hd ⟨_, rfl, fun _ => ?_, fun e => (by cases e)⟩
  refine s42 h hd ⟨_, rfl, fun _ => ?_, fun e => by rw [et] at e; cases e⟩
  refine ⟨_, _, rfl, _, _, _, h.cell 0 rfl _, _, _, rfl, by omega, by omega, d.nest[i], by rw [ei, Nat.zero_add]; exact nest_cell h hi, fun e => by omega, fun _ => ?_⟩
  refine ⟨_, _, _, h.cell 0 rfl _, _, _, rfl, by omega, by omega, d.nest[i], by rw [ei, Nat.zero_add]; exact nest_cell h hi, fun r19 e19 => ⟨by omega, by omega, ?_⟩⟩
  rw [wrap_id (by omega) (by omega)] at e19
  rw [ei, Nat.zero_add]
  obtain ⟨a1, a2, a3⟩ := DomG.setNest h hi r19
  refine ⟨a1, a2, fun w20 e20 => ?_⟩
  subst e20 e19
  exact hR _ a3

/-- (*Domain).Pass -/
theorem s24 (h : Own w0 Im w (d.L ++ Fr)) (hd : DomOk d) {i : Nat} (hi : i < d.nest.length)
    (hno : 0 < d.nest[i] → R (.returned (.bool false)) w)
    (hR : ∀ w', ¬ 0 < d.nest[i] → Own w0 Im w' (({ d with passed := d.passed.set i true } : DomG).L ++ Fr) → R (.returned (.bool true)) w') :
    Calls Tryd.prog 24 #[.pointer (some ⟨d.db, 0, none⟩), .int .i64 i] w R := by
  apply vc24
  unfold Vc24
  have ei : ((i : Nat) : Int).toNat = i := by omega
  have hlen := hd.len
  have et : decide (0 ≤ ((i : Nat) : Int) ∧ ((i : Nat) : Int) < d.nest.length) = true := by simp; omega
  refine s42 h hd ⟨_, rfl, fun _ => ?_, fun e => by rw [et] at e; cases e⟩
  refine ⟨_, _, rfl, _, _, _, h.cell 0 rfl _, _, _, rfl, by omega, by omega, d.nest[i], by rw [ei, Nat.zero_add]; exact nest_cell h hi, fun e => hno e, fun e => ?_⟩
  refine ⟨_, _, _, h.cell 0 rfl _, _, _, rfl, by omega, by omega, ?_⟩
  rw [ei, Nat.zero_add]
  obtain ⟨a1, a2, a3⟩ := DomG.setPassed h (i := i) (by omega) true
  refine ⟨a1, a2, fun w15 e15 => ?_⟩
  subst e15
  exact hR _ e a3

/-- (*Domain).Leave -/
theorem s27 (h : Own w0 Im w (d.L ++ Fr)) (hd : DomOk d) {i : Nat} (hi : i < d.nest.length) (h1 : d.nest[i] = 1)
    (hR : ∀ w', Own w0 Im w' (({ d with nest := d.nest.set i 0, passed := d.passed.set i true } : DomG).L ++ Fr) → R (.returned (.int .i64 0)) w') :
    Calls Tryd.prog 27 #[.pointer (some ⟨d.db, 0, none⟩), .int .i64 i] w R := by
  apply vc27
  unfold Vc27
  have ei : ((i : Nat) : Int).toNat = i := by omega
  have et : decide (0 ≤ ((i : Nat) : Int) ∧ ((i : Nat) : Int) < d.nest.length) = true := by simp; omega
  refine s40 h hd ⟨_, rfl, fun _ => ?_, fun e => (by cases e)⟩
  refine s42 h hd ⟨_, rfl, fun _ => ?_, fun e => by rw [et] at e; cases e⟩
  refine ⟨_, _, rfl, _, _, _, h.cell 0 rfl _, _, _, rfl, by omega, by omega, d.nest[i], by rw [ei, Nat.zero_add]; exact nest_cell h hi, fun e => by omega, fun _ => ?_⟩
  refine ⟨_, _, _, h.cell 0 rfl _, _, _, rfl, by omega, by omega, d.nest[i], by rw [ei, Nat.zero_add]; exact nest_cell h hi, fun r19 e19 => ⟨by omega, by omega, ?_⟩⟩
  rw [wrap_id (by omega) (by omega)] at e19
  have e0 : r19 = 0 := by omega
  subst e0
  rw [ei, Nat.zero_add]
  obtain ⟨a1, a2, a3⟩ := DomG.setNest h hi 0
  refine ⟨a1, a2, fun w20 e20 => ?_⟩
  subst e20
  have H := fun R hno hR => s24 (R := R) a3 (hd.nest i 0) (i := i) (by simpa using hi) hno hR
  refine H _ (fun e => ?_) fun w' _ h' => ⟨_, rfl, hR w' h'⟩
  simp at e

/-- slices.Contains(.., false) -/
theorem s43 (h : Own w0 Im w (d.L ++ Fr)) (hd : DomOk d) (hR : R (.returned (.bool (decide (false ∈ d.passed)))) w) :
    Calls Tryd.prog 43 #[.slice (some ⟨d.pb, 0, none⟩) d.passed.length d.passed.length, .bool false] w R := by
  apply vc43
  unfold Vc43
  apply vc50
  unfold Vc50
  have hlen := hd.len
  have hhi := hd.hi
  refine ⟨fun m i w' => ∃ j, m = d.passed.length - j ∧ i = (j : Nat) ∧ j ≤ d.passed.length ∧ w' = w ∧ false ∉ d.passed.take j, ⟨_, 0, rfl, rfl, by omega, rfl, by simp⟩, ?_⟩
  rintro m i w' ⟨j, rfl, rfl, hj, hw, hn⟩
  subst hw
  refine ⟨fun hlt => ?_, fun hge => ⟨_, rfl, ?_⟩⟩
  · have hj' : j < d.passed.length := by omega
    have ej : ((j : Nat) : Int).toNat = j := by omega
    refine ⟨_, _, rfl, by omega, hlt, d.passed[j], by rw [ej, Nat.zero_add, h.cell 2 rfl]; simp [bools, hj'], fun e => ⟨_, rfl, ?_⟩, fun e r9 e9 => ?_⟩
    · have e1 : decide (false ∈ d.passed) = true := by
        simp at e; simp; rw [← e]; exact List.getElem_mem hj'
      have e2 : decide ((0 : Int) ≤ ((j : Nat) : Int)) = true := by simp
      rw [e1] at hR; rw [e2]; exact hR
    · rw [wrap_id (by omega) (by omega)] at e9
      refine ⟨_, by omega, j + 1, rfl, by omega, by omega, rfl, ?_⟩
      rw [List.take_succ_eq_append_getElem hj', List.mem_append]
      rintro (h | h)
      · exact hn h
      · simp at h e
        rw [h] at e; cases e
  · have e : j = d.passed.length := by omega
    subst e
    rw [List.take_length] at hn
    have e1 : decide (false ∈ d.passed) = false := by simp [hn]
    rw [e1] at hR; exact hR

/-- (*Domain).Step -/
theorem s25 (h : Own w0 Im w (d.L ++ Fr)) (hd : DomOk d) (he : 0 ≤ d.epoch) (he2 : d.epoch < 4611686018427387904)
    (hno : false ∈ d.passed → R (.returned (.bool false)) w)
    (hR : ∀ w', false ∉ d.passed → Own w0 Im w' (({ d with passed := List.replicate d.passed.length false, epoch := d.epoch + 1 } : DomG).L ++ Fr) → R (.returned (.bool true)) w') :
    Calls Tryd.prog 25 #[.pointer (some ⟨d.db, 0, none⟩)] w R := by
  apply vc25
  unfold Vc25
  have hlen := hd.len
  have hlo := hd.lo
  refine s40 h hd ⟨_, rfl, fun _ => ⟨_, _, rfl, _, _, _, h.cell 0 rfl _, ?_⟩, fun e => (by cases e)⟩
  refine s43 h hd ⟨_, rfl, fun e => hno (by simpa using e), fun e => ?_⟩
  have hnot : false ∉ d.passed := by simpa using e
  refine ⟨_, h.cell 0 rfl _, fun r12 e12 => ⟨by rw [h.cell 0 rfl]; rfl, h.frozen 0 rfl _, fun w13 e13 => ?_⟩⟩
  rw [wrap_id (by omega) (by omega)] at e12
  have h13 := h.set 0 rfl (0 + 2) (.int .i64 r12)
  rw [← e13] at h13
  refine ⟨_, _, _, h13.cell 0 rfl _, ?_⟩
  have hcl := run_clear_row (P := Tryd.prog) (t := 72) (ty := 0) (e := 4) (size := 1) (z := .bool false) Tryd.underlying72 Tryd.type4 rfl rfl (by intro u hu; simp [Value.cells] at hu; subst hu; rfl) (w := w13) (g := d.pb) (o := 0) (n := d.passed.length) (c := d.passed.length) (h13.get 2 rfl) (by omega) (by simp [bools])
  refine ⟨_, hcl, ?_⟩
  have h15 := h13.setRow 2 rfl (cs' := ((bools d.passed).take 0 ++ (Builtin.zeroCells (Value.bool false).cells d.passed.length).toList ++ (bools d.passed).drop (0 + d.passed.length * 1)).toArray)
  have e : ((bools d.passed).take 0 ++ (Builtin.zeroCells (Value.bool false).cells d.passed.length).toList ++ (bools d.passed).drop (0 + d.passed.length * 1)) = bools (List.replicate d.passed.length false) := by
    rw [List.take_zero, List.nil_append, List.drop_of_length_le (by simp [bools]), List.append_nil]
    apply List.ext_getElem
    · simp [Builtin.zeroCells, bools, Value.cells]
    · intro i h1 h2
      simp [Builtin.zeroCells, bools, Value.cells, Nat.mod_one]
  rw [e] at h15 ⊢
  refine hR _ hnot ?_
  unfold DomG.L DomG.cells
  simp only [List.length_replicate]
  subst e12
  exact h15

/-- (*Domain).Ready -/
theorem s26 (h : Own w0 Im w (d.L ++ Fr)) (hd : DomOk d) (he : 0 ≤ d.epoch) (hb : d.waits.length ≤ 4398046511104) (hwb : ∀ p ∈ d.waits, p.2 ≤ d.epoch ∧ 0 ≤ p.2) (he2 : d.epoch < 4611686018427387904)
    (hR : ∀ w' d' x, Own w0 Im w' (vecL 3 x ++ (d'.L ++ Fr)) → DomOk d' → d'.db = d.db → d'.nest = d.nest → d'.passed = d.passed → d'.epoch = d.epoch → d'.waits = d.waits.filter (fun p => !decide (p.2 + 2 ≤ d.epoch)) →
      R (.returned (.slice (vecA x) (d.waits.filter fun p => decide (p.2 + 2 ≤ d.epoch)).length (vecC x))) w') :
    Calls Tryd.prog 26 #[.pointer (some ⟨d.db, 0, none⟩)] w R := by
  apply vc26
  unfold Vc26
  have hfl : ∀ (q : Int × Int → Bool) (k : Nat), ((d.waits.take k).filter q).length ≤ d.waits.length := fun q k => by
    have h1 := List.length_filter_le q (d.waits.take k)
    have h2 : (d.waits.take k).length ≤ d.waits.length := by simp; omega
    omega
  refine s40 h hd ⟨_, rfl, fun _ => ⟨_, _, rfl, _, _, _, h.cell 0 rfl _, ?_⟩, fun e => (by cases e)⟩
  refine ⟨fun m a al ac b bl bc v w' => ∃ (j : Nat) (x y : VecB), m = d.waits.length - j ∧ v = j ∧ j ≤ d.waits.length ∧ a = vecA x ∧ al = ((d.waits.take j).filter fun p => decide (p.2 + 2 ≤ d.epoch)).length ∧ ac = vecC x ∧ b = vecA y ∧ bl = ((d.waits.take j).filter fun p => !decide (p.2 + 2 ≤ d.epoch)).length ∧ bc = vecC y ∧
      Own w0 Im w' (vecL 3 x ++ (vecL 86 y ++ (d.L ++ Fr))) ∧ VecE (fun p : Int × Int => [Value.int .i64 p.1]) 1 x ((d.waits.take j).filter fun p => decide (p.2 + 2 ≤ d.epoch)) ∧ VecE waitC 2 y ((d.waits.take j).filter fun p => !decide (p.2 + 2 ≤ d.epoch)),
    ⟨_, 0, none, none, rfl, rfl, by omega, rfl, rfl, rfl, rfl, rfl, rfl, h, VecE.nil, VecE.nil⟩, ?_⟩
  rintro m a al ac b bl bc v w12 ⟨j, x, y, rfl, rfl, hj, rfl, rfl, rfl, rfl, rfl, rfl, h12, hx, hy⟩
  refine ⟨fun hlt => ?_, fun hge => ?_⟩
  · have hj' : j < d.waits.length := by omega
    have ej : ((j : Nat) : Int).toNat = j := by omega
    obtain ⟨g, eg, hcell⟩ := vecE_at (f := waitC) (n := 2) (e := 86) (fun _ => rfl) h12 (fun p hp => by simp [DomG.L, hp]) (show VecE waitC 2 d.wv d.waits from hd.vec) hj'
    obtain ⟨hq1, hq2⟩ := hwb _ (List.getElem_mem hj')
    refine ⟨_, _, eg, by omega, hlt, d.waits[j].1, d.waits[j].2, by rw [ej, Nat.zero_add]; exact hcell, fun b17 w18 e17 e18 => ?_⟩
    have h18 := h12.alloc' e17 e18
    refine ⟨h18.putOk 0 rfl (by simp), fun w19 e19 => ?_⟩
    have h19 : Own w0 Im w19 ((b17, .cells #[.int .i64 d.waits[j].1, .int .i64 d.waits[j].2] 86 (0, 0)) :: (vecL 3 x ++ (vecL 86 y ++ (d.L ++ Fr)))) := by rw [e19]; exact h18.put [.int .i64 d.waits[j].1, .int .i64 d.waits[j].2] 0 0 rfl 0
    have h19 := h19.drew
    have pD : ((b17, Obj.cells #[Value.int .i64 d.waits[j].1, Value.int .i64 d.waits[j].2] 86 (0, 0)) :: (vecL 3 x ++ (vecL 86 y ++ (d.L ++ Fr)))).Perm (d.L ++ ((b17, Obj.cells #[Value.int .i64 d.waits[j].1, Value.int .i64 d.waits[j].2] 86 (0, 0)) :: (vecL 3 x ++ (vecL 86 y ++ Fr)))) := by
      have := perm_l ((b17, Obj.cells #[Value.int .i64 d.waits[j].1, Value.int .i64 d.waits[j].2] 86 (0, 0)) :: (vecL 3 x ++ vecL 86 y)) d.L Fr
      simpa [List.append_assoc] using this
    refine ⟨_, (h19.perm pD).cell 0 rfl _, _, h19.cell 0 rfl _, fun r22 e22 => ?_⟩
    rw [wrap_id (by omega) (by omega)] at e22
    refine ⟨fun hle => ?_, fun hgt => ?_⟩
    · have hp : decide (d.waits[j].2 + 2 ≤ d.epoch) = true := by simp; omega
      refine ⟨_, h19.cell 0 rfl _, fun b24 w25 e24 e25 => ?_⟩
      have h25 := (h19.tail rfl).alloc' e24 e25
      obtain ⟨x', w26, hr, ho, hx'⟩ := vecE_append (n := 1) (P := Tryd.prog) (t := 38) (ty := 38) (e := 3) (bytes := 8) (z := .int .i64 0) (f := fun p : Int × Int => [Value.int .i64 p.1]) (a := some ⟨b24, 0, none⟩) (c := 1) (ys := [d.waits[j]]) Tryd.underlying38 Tryd.type3 rfl rfl rfl rfl (fun _ => rfl) (fun a u hu => by simp at hu; subst hu; rfl)
        (h25.perm (perm_l [_] (vecL 3 x) _)) hx (fun _ => ⟨_, rfl, h25.cellsAt 0 rfl (fun j v hj => by rw [Nat.zero_add, List.getElem?_toArray]; simpa using hj)⟩) (by have := hfl (fun p => decide (p.2 + 2 ≤ d.epoch)) j; simp only [List.length_singleton]; omega) (by have := hfl (fun p => decide (p.2 + 2 ≤ d.epoch)) j; simp only [List.length_singleton, maxLen]; omega)
      refine ⟨_, _, _, w26, hr, fun r28 e28 => ?_⟩
      rw [wrap_id (by omega) (by omega)] at e28
      have e1 : ((d.waits.take (j + 1)).filter fun p => decide (p.2 + 2 ≤ d.epoch)) = ((d.waits.take j).filter fun p => decide (p.2 + 2 ≤ d.epoch)) ++ [d.waits[j]] := by
        rw [List.take_succ_eq_append_getElem hj', List.filter_append]; simp [of_decide_eq_true hp]
      have e2 : ((d.waits.take (j + 1)).filter fun p => !decide (p.2 + 2 ≤ d.epoch)) = ((d.waits.take j).filter fun p => !decide (p.2 + 2 ≤ d.epoch)) := by
        rw [List.take_succ_eq_append_getElem hj', List.filter_append]; simp [of_decide_eq_true hp]
      refine ⟨_, by omega, j + 1, x', y, rfl, by omega, by omega, rfl, by rw [e1]; simp, rfl, rfl, by rw [e2], rfl, (ho.perm (perm_l [_] (vecL 3 x') _).symm).tail rfl, by rw [e1]; exact hx', by rw [e2]; exact hy⟩
    · have hp : decide (d.waits[j].2 + 2 ≤ d.epoch) = false := by simp; omega
      refine ⟨_, _, h19.cellsAt 0 rfl (vs := waitC d.waits[j]) (fun j v hj => by rw [Nat.zero_add, List.getElem?_toArray]; exact hj), fun b32 w33 e32 e33 => ?_⟩
      have h33 := (h19.tail rfl).alloc' e32 e33
      have pY : ∀ (y : VecB) (o : Nat × Obj), (o :: (vecL 3 x ++ (vecL 86 y ++ (d.L ++ Fr)))).Perm (vecL 86 y ++ ((o :: vecL 3 x) ++ (d.L ++ Fr))) := fun y o => perm_l (o :: vecL 3 x) (vecL 86 y) _
      obtain ⟨y', w34, hr, ho, hy'⟩ := vecE_append (n := 2) (P := Tryd.prog) (t := 73) (ty := 73) (e := 86) (bytes := 16) (z := .agg #[.int .i64 0, .int .i64 0]) (f := waitC) (a := some ⟨b32, 0, none⟩) (c := 1) (ys := [d.waits[j]]) Tryd.underlying73 Tryd.type86 rfl rfl rfl rfl (fun _ => rfl) (fun a u hu => by simp [waitC, wcells] at hu; rcases hu with rfl | rfl <;> rfl)
        (h33.perm (pY y _)) hy (fun _ => ⟨_, rfl, h33.cellsAt 0 rfl (fun j v hj => by rw [Nat.zero_add, List.getElem?_toArray]; simpa [waitC, wcells] using hj)⟩) (by have := hfl (fun p => !decide (p.2 + 2 ≤ d.epoch)) j; simp only [List.length_singleton]; omega) (by have := hfl (fun p => !decide (p.2 + 2 ≤ d.epoch)) j; simp only [List.length_singleton, maxLen]; omega)
      refine ⟨_, _, _, w34, hr, fun r36 e36 => ?_⟩
      rw [wrap_id (by omega) (by omega)] at e36
      have hnp : ¬ d.waits[j].2 + 2 ≤ d.epoch := of_decide_eq_false hp
      have e1 : ((d.waits.take (j + 1)).filter fun p => decide (p.2 + 2 ≤ d.epoch)) = ((d.waits.take j).filter fun p => decide (p.2 + 2 ≤ d.epoch)) := by
        rw [List.take_succ_eq_append_getElem hj', List.filter_append]; simp [hnp]
      have e2 : ((d.waits.take (j + 1)).filter fun p => !decide (p.2 + 2 ≤ d.epoch)) = ((d.waits.take j).filter fun p => !decide (p.2 + 2 ≤ d.epoch)) ++ [d.waits[j]] := by
        rw [List.take_succ_eq_append_getElem hj', List.filter_append]; simp [hnp]
      refine ⟨_, by omega, j + 1, x, y', rfl, by omega, by omega, rfl, by rw [e1], rfl, rfl, by rw [e2]; simp, rfl, (ho.perm (pY y' _).symm).tail rfl, by rw [e1]; exact hx, by rw [e2]; exact hy'⟩
  · have e : j = d.waits.length := by omega
    subst e
    rw [List.take_length] at hx hy
    have pE : ∀ (d' : List (Nat × Obj)) (o : Nat × Obj), (vecL 3 x ++ (vecL 86 y ++ ((o :: d') ++ Fr))).Perm (o :: (vecL 3 x ++ (vecL 86 y ++ (d' ++ Fr)))) := fun d' o => by
      have := (List.perm_middle (a := o) (l₁ := vecL 3 x ++ vecL 86 y) (l₂ := d' ++ Fr))
      simpa [List.append_assoc] using this
    have h12p := h12.perm (pE _ _)
    refine ⟨by rw [h12p.cell 0 rfl]; rfl, h12p.frozen 0 rfl _, fun w38 e38 => ?_⟩
    have h38 := h12p.set 0 rfl (0 + 3) (.slice (vecA y) (d.waits.filter fun p => !decide (p.2 + 2 ≤ d.epoch)).length (vecC y))
    rw [List.take_length] at e38
    rw [← e38] at h38
    rw [List.take_length]
    refine hR w38 { d with wv := y, waits := d.waits.filter fun p => !decide (p.2 + 2 ≤ d.epoch) } x ?_ ⟨hy, hd.lo, hd.hi, hd.len⟩ rfl rfl rfl rfl rfl
    have hs := h38.sub (L' := (d.db, _) :: (vecL 3 x ++ (vecL 86 y ++ ([(d.nb, .cells (i64s d.nest).toArray 3 (0, 0)), (d.pb, .cells (bools d.passed).toArray 4 (0, 0))] ++ Fr))))
      (((List.Sublist.refl _).append ((List.Sublist.refl _).append ((List.sublist_append_left _ (vecL 86 d.wv)).append (List.Sublist.refl Fr)))).cons_cons _)
    exact hs.perm ((perm_l [_] (vecL 3 x) _).trans (List.Perm.append_left _ (List.Perm.append_left [_] (perm_l (vecL 86 y) _ Fr))))
end
end Go.Proofs.YtimokldcmpbjcaaDoor
