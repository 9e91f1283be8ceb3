/- A part of the proof: lemmas. -/
import Derived.Test.YtmffnjdndhkbhaaVcWaitA
namespace Go.Proofs.Ytmffnjdndhkbhaa
open Go Go.Vc
set_option maxRecDepth 100000
set_option linter.unusedVariables false

theorem cellsAt3 {w : World} {g o : Nat} {u v z : Value} (h0 : w.cell? ⟨g, o, none⟩ = some u) (h1 : w.cell? ⟨g, o + 1, none⟩ = some v) (h2 : w.cell? ⟨g, o + 2, none⟩ = some z) : CellsAt w ⟨g, o, none⟩ [u, v, z] := fun j y hj => by
  rw [add_none]
  match j, hj with
  | 0, hj => rw [Nat.add_zero, h0]; exact hj
  | 1, hj => rw [h1]; exact hj
  | 2, hj => rw [h2]; exact hj
  | j + 3, hj => simp at hj
/-- A queue: who sleeps on what. -/
structure QueueG where
  qb : Nat
  sb : Nat
  SM : List (Ent Chan)
  sclk : Nat
  SE : List (AV Chan Int)
  ob : Nat
  OM : List (Ent Int)
  oclk : Nat
  OE : List (AV Int Chan)
def QueueG.cells (q : QueueG) : Array Value := #[.map (some q.sb), .map (some q.ob)]
def QueueG.L (q : QueueG) : List (Nat × Obj) := (q.qb, .cells q.cells 52 (0, 0)) :: (q.sb, mapObj chanE q.SM q.sclk) :: (q.ob, mapObj (Vc.encI .i64) q.OM q.oclk) :: (avBlocks 3 q.SE ++ avBlocks 29 q.OE)
/-- Who sleeps on a channel; on what a thread sleeps; who sleeps. -/
def QueueG.S (q : QueueG) (c : Chan) : List Int := avL q.SE c
def QueueG.O (q : QueueG) (t : Int) : List Chan := avL q.OE t
def QueueG.K (q : QueueG) : List Int := q.OE.map (·.k)
structure QW (q : QueueG) : Prop where
  s : AvOk intC 1 q.SE q.SM q.sclk
  o : AvOk chanC 3 q.OE q.OM q.oclk
  few : q.OE.length ≤ 64
  on : ∀ t, (q.O t).length ≤ 16
  sl : ∀ c, (q.S c).length ≤ 65
structure QOk (q : QueueG) : Prop where
  w : QW q
  both : ∀ t c, t ∈ q.S c ↔ c ∈ q.O t
  one : ∀ c, (q.S c).Nodup
  some : ∀ t, t ∈ q.K ↔ q.O t ≠ []
  ond : ∀ t, (q.O t).Nodup
  pos : ∀ t ∈ q.K, 1 ≤ t ∧ t ≤ 9223372036854775807
/-- It is the same one; this sleeps. -/
structure QTurn (q q' : QueueG) (S : Chan → List Int) (O : Int → List Chan) (K : List Int) : Prop where
  qb : q'.qb = q.qb
  S : q'.S = S
  O : q'.O = O
  K : q'.K.Perm K
theorem QTurn.refl (q : QueueG) : QTurn q q q.S q.O q.K := ⟨rfl, rfl, rfl, List.Perm.refl _⟩
section
variable {w0 w : World} {Im : Mem} {Fr L : List (Nat × Obj)} {q : QueueG} {R : Ending → World → Prop}
theorem QOk.sleepers (h : QOk q) (c : Chan) : (q.S c).length ≤ 64 := by
  have h1 : (q.S c) ⊆ q.K := fun t ht => (h.some t).2 (fun e => by have := (h.both t c).1 ht; rw [e] at this; cases this)
  have := List.Nodup.length_le_of_subset (h.one c) h1
  have h2 := h.w.few
  unfold QueueG.K at this
  rw [List.length_map] at this
  omega
theorem chanAt {b : Nat} {k : Chan} {w' : World} {l : List (Nat × Obj)} (h : Own w0 Im w' ((b, .cells (chanC k).toArray 29 (0, 0)) :: l)) : CellsAt w' ⟨b, 0, none⟩ (chanC k) :=
  h.cellsAt 0 rfl (fun j v hj => by rw [Nat.zero_add, List.getElem?_toArray]; exact hj)
/-- New -/
theorem s5 (h : Own w0 Im w Fr) (hR : ∀ w' q, Own w0 Im w' (q.L ++ Fr) → QOk q → q.S = (fun _ => []) → q.O = (fun _ => []) → q.K = [] → R (.returned (.pointer (some ⟨q.qb, 0, none⟩))) w') : Calls Try.prog 5 #[] w R := by
  apply vc5
  unfold Vc5
  intro b1 w2 e1 e2 b3 w4 e3 e4 b5 w6 e5 e6
  have h6 := ((h.alloc' e1 e2).alloc' e3 e4).alloc' e5 e6
  refine hR w6 ⟨b5, b1, [], 0, [], b3, [], 0, []⟩ ?_ ⟨⟨AvOk.empty, AvOk.empty, Nat.zero_le _, fun t => Nat.zero_le _, fun c => Nat.zero_le _⟩, fun t c => by simp [QueueG.S, QueueG.O, avL, avGet], fun c => List.nodup_nil, fun t => by simp [QueueG.K, QueueG.O, avL, avGet], fun t => List.nodup_nil, fun t ht => by cases ht⟩ rfl rfl rfl
  exact h6.perm (List.Perm.cons _ (List.Perm.swap _ _ _))
/-- made -/
theorem s17 (h : Own w0 Im w (q.L ++ Fr)) (hR : R (.returned (.bool true)) w) : Calls Try.prog 17 #[.pointer (some ⟨q.qb, 0, none⟩)] w R := by
  apply vc17
  unfold Vc17
  exact ⟨fun _ => ⟨_, _, rfl, _, h.cell 0 rfl _, hR⟩, fun e => by cases e⟩
/-- Len -/
theorem s12 (h : Own w0 Im w (q.L ++ Fr)) (hq : QW q) (hR : R (.returned (.int .i64 (q.K.length : Nat))) w) : Calls Try.prog 12 #[.pointer (some ⟨q.qb, 0, none⟩)] w R := by
  apply vc12
  unfold Vc12
  refine s17 h ⟨_, rfl, fun _ => ⟨_, _, rfl, _, h.cell 0 rfl _, _, Vc.run_len_map Try.underlying50 h (b := q.ob) (M := q.OM) (clk := q.oclk) (enc := Vc.encI .i64) (by simp [QueueG.L]), ?_⟩, fun e => (by cases e)⟩
  rw [hq.o.len]
  unfold QueueG.K at hR
  rw [List.length_map] at hR
  exact hR
theorem look_s (h : Own w0 Im w L) (hm : (q.sb, mapObj chanE q.SM q.sclk) ∈ L) (hq : QW q) (c : Chan) :
    (Instr.lookup 49 (.map (some q.sb)) (chanE c) false).run Try.prog w = .ok (.slice (vecA (avV q.SE c)) (q.S c).length (vecC (avV q.SE c))) w := by
  have := run_lookup (P := Try.prog) (t := 49) (K := 29) (E := 34) (enc := chanE) Try.underlying49 keyChan (w := w) (b := q.sb) (M := q.SM) (clk := q.sclk) (h.mem hm) c false (z := .slice none 0 0) Try.type34 rfl
  rw [hq.s.look c] at this
  exact this
theorem look_o (h : Own w0 Im w L) (hm : (q.ob, mapObj (Vc.encI .i64) q.OM q.oclk) ∈ L) (hq : QW q) (t : Int) (ok : Bool) :
    (Instr.lookup 50 (.map (some q.ob)) (.int .i64 t) ok).run Try.prog w = .ok (if ok then .tuple #[.slice (vecA (avV q.OE t)) (q.O t).length (vecC (avV q.OE t)), .bool (decide (t ∈ q.K))] else .slice (vecA (avV q.OE t)) (q.O t).length (vecC (avV q.OE t))) w := by
  have := run_lookup (P := Try.prog) (t := 50) (K := 3) (E := 27) (enc := Vc.encI .i64) Try.underlying50 keyInt (w := w) (b := q.ob) (M := q.OM) (clk := q.oclk) (h.mem hm) t ok (z := .slice none 0 0) Try.type27 rfl
  rw [hq.o.look t, hq.o.isSome t] at this
  exact this
/-- Sleepers -/
theorem s8 {c : Chan} (h : Own w0 Im w (q.L ++ Fr)) (hq : QW q) (hR : ∀ w' x, Own w0 Im w' (vecL 3 x ++ (q.L ++ Fr)) → VecE intC 1 x (q.S c) → R (.returned (.slice (vecA x) (q.S c).length (vecC x))) w') :
    Calls Try.prog 8 #[.pointer (some ⟨q.qb, 0, none⟩), .agg #[.int .i64 c.1, .int .i64 c.2.1, .int .i64 c.2.2]] w R := by
  apply vc8
  unfold Vc8
  intro b5 w6 e5 e6
  have h6 := h.alloc' e5 e6
  refine s17 (h6.tail rfl) ⟨_, rfl, fun _ => ?_, fun e => (by cases e)⟩
  have hd := h6.drew
  have hsl := hq.sl c
  refine ⟨_, _, rfl, _, hd.cell 1 rfl _, _, _, _, chanAt hd, _, _, _, look_s hd (by simp [QueueG.L]) hq c, ?_⟩
  have hp := avBlocks_open 3 hq.s.nd c
  have hperm : ((b5, Obj.cells (chanC c).toArray 29 (0, 0)) :: (q.L ++ Fr)).Perm (vecL 3 (avV q.SE c) ++ ((b5, Obj.cells (chanC c).toArray 29 (0, 0)) :: (q.qb, .cells q.cells 52 (0, 0)) :: (q.sb, mapObj chanE q.SM q.sclk) :: (q.ob, mapObj (Vc.encI .i64) q.OM q.oclk) :: (avBlocks 3 (avDel q.SE c) ++ (avBlocks 29 q.OE ++ Fr)))) := by
    refine by_count fun a => ?_
    have := count_of hp a
    simp only [List.count_append] at this
    simp only [QueueG.L, List.count_append, List.cons_append, List.count_cons]
    omega
  refine s20 (hd.perm hperm) (hq.s.vecAt c) (by show (q.S c).length * 8 ≤ _; omega) fun w18 x h18 hx => ⟨_, _, _, rfl, ?_⟩
  have h18' := h18.perm ((List.Perm.append_left (vecL 3 x) hperm.symm).trans (List.perm_middle))
  exact ⟨chanAt h18', (h18'.tail rfl).sub (List.sublist_append_right _ _) |>.cell 0 rfl _, hR w18 x (h18'.tail rfl) hx⟩
theorem del_tid {b k : Nat} {L1 : List (Nat × Obj)} {tid t : Int} (h : Own w0 Im w L1) (hm : (b, Obj.cells #[.int .i64 tid] 3 (0, 0)) ∈ L1) (hR : R (.returned (.bool (decide (t = tid)))) w) :
    Invoke Try.prog (.func (.func 35) #[] #[.pointer (some ⟨b, 0, none⟩)]) #[.int .i64 t] w R := by
  refine ⟨35, #[], #[.pointer (some ⟨b, 0, none⟩)], rfl, Try.call35, ?_⟩
  apply vc35
  unfold Vc35
  exact ⟨_, _, rfl, _, cell_of (h.mem hm) 0, hR⟩
/-- What is left of a queue when a thread leaves a channel. -/
def leaveS (S : Chan → List Int) (tid : Int) (c : Chan) : Chan → List Int := fun x => if x = c then (S c).filter (fun y => !decide (y = tid)) else S x
/-- leave -/
theorem s21 {tid : Int} {c : Chan} (h : Own w0 Im w (q.L ++ Fr)) (hq : QW q)
    (hR : ∀ w' q', Own w0 Im w' (q'.L ++ Fr) → QW q' → q'.qb = q.qb → q'.S = leaveS q.S tid c → q'.OE = q.OE → R (.returned (.tuple #[])) w') :
    Calls Try.prog 21 #[.pointer (some ⟨q.qb, 0, none⟩), .int .i64 tid, .agg #[.int .i64 c.1, .int .i64 c.2.1, .int .i64 c.2.2]] w R := by
  apply vc21
  unfold Vc21
  intro b6 w7 e6 e7 b8 w9 e8 e9
  have h9 := (h.alloc' e6 e7).alloc' e8 e9
  have hd := h9.drew
  have hsl := hq.sl c
  refine ⟨_, _, rfl, _, hd.cell 2 rfl _, _, _, _, chanAt hd, _, _, _, look_s hd (by simp [QueueG.L]) hq c, ?_⟩
  have hp := avBlocks_open 3 hq.s.nd c
  obtain ⟨B6, hB6⟩ : ∃ B : Nat × Obj, B = (b6, .cells #[.int .i64 tid] 3 (0, 0)) := ⟨_, rfl⟩
  obtain ⟨Q0, hQ0⟩ : ∃ L : List (Nat × Obj), L = (q.ob, mapObj (Vc.encI .i64) q.OM q.oclk) :: (avBlocks 3 (avDel q.SE c) ++ (avBlocks 29 q.OE ++ Fr)) := ⟨_, rfl⟩
  obtain ⟨Q1, hQ1⟩ : ∃ L : List (Nat × Obj), L = (b8, Obj.cells (chanC c).toArray 29 (0, 0)) :: (q.qb, .cells q.cells 52 (0, 0)) :: (q.sb, mapObj chanE q.SM q.sclk) :: B6 :: Q0 := ⟨_, rfl⟩
  have hperm : ((b8, Obj.cells (chanC c).toArray 29 (0, 0)) :: (b6, Obj.cells #[.int .i64 tid] 3 (0, 0)) :: (q.L ++ Fr)).Perm (vecL 3 (avV q.SE c) ++ Q1) := by
    rw [hQ1, hQ0, hB6]
    refine by_count fun a => ?_
    have := count_of hp a
    simp only [List.count_append] at this
    simp only [QueueG.L, List.count_append, List.cons_append, List.count_cons]
    omega
  refine s20 (hd.perm hperm) (hq.s.vecAt c) (by show (q.S c).length * 8 ≤ _; omega) fun w18 x h18 hx => ⟨_, _, _, rfl, ?_⟩
  have hat : ∀ {w' : World} (A : List (Nat × Obj)), Own w0 Im w' (A ++ Q1) → CellsAt w' ⟨b8, 0, none⟩ (chanC c) ∧ w'.cell? ⟨q.qb, 0, none⟩ = some (.map (some q.sb)) := fun A h => by
    have h1 := h.sub (List.sublist_append_right A Q1)
    rw [hQ1] at h1
    exact ⟨chanAt h1, h1.cell 1 rfl 0⟩
  have h18q := h18.perm (L' := (vecL 3 x ++ vecL 3 (avV q.SE c)) ++ Q1) (by rw [List.append_assoc])
  refine ⟨(hat _ h18q).1, (hat _ h18q).2, ?_⟩
  refine s34 h18 hx (by show (q.S c).length * 8 ≤ _; omega) (fun y => decide (y = tid)) (fun w' A y R' h' _ hR' => del_tid (k := 0) h' (by rw [hQ1, hB6]; simp) (hR' _ h')) fun w20 v h20 hv => ⟨_, _, _, rfl, ?_⟩
  have h20q := h20.perm (L' := (vecL 3 v ++ vecL 3 (avV q.SE c)) ++ Q1) (by rw [List.append_assoc])
  refine ⟨(hat _ h20q).1, (hat _ h20q).2, ?_⟩
  obtain ⟨l, hl⟩ : ∃ l, l = (q.S c).filter fun y => !decide (y = tid) := ⟨_, rfl⟩
  rw [← hl] at hv ⊢
  have hll : l.length ≤ 65 := by
    have := List.length_filter_le (fun y => !decide (y = tid)) (q.S c)
    rw [← hl] at this
    omega
  have hd2 := h20q.drew
  have hat2 := hat _ hd2
  have h2 : Own w0 Im w20.drew (vecL 3 v ++ Q1) := hd2.sub (List.Sublist.append_right (List.sublist_append_left _ _) _)
  have h2m : Own w0 Im w20.drew ((q.sb, mapObj chanE q.SM q.sclk) :: (q.qb, .cells q.cells 52 (0, 0)) :: (vecL 3 v ++ Q0)) := by
    refine (h2.perm (L' := [(b8, Obj.cells (chanC c).toArray 29 (0, 0)), B6] ++ ((q.sb, mapObj chanE q.SM q.sclk) :: (q.qb, .cells q.cells 52 (0, 0)) :: (vecL 3 v ++ Q0))) (by_count fun a => ?_)).sub (List.sublist_append_right _ _)
    rw [hQ1]
    simp only [List.count_append, List.cons_append, List.count_cons, List.count_nil]
    omega
  refine ⟨fun hz => ?_, fun hz => ?_⟩
  · have hl0 : l = [] := List.length_eq_zero_iff.1 (by omega)
    have hdl := run_delete (P := Try.prog) (t := 49) (u := 29) (ty := 0) Try.underlying49 keyChan hq.s.mnd (h2m.get 0 rfl) c
    refine ⟨_, hat2.2, _, _, _, hat2.1, _, hdl, ?_⟩
    have h3 := h2m.setObj 0 rfl (o' := mapObj chanE (adel q.SM c) q.sclk)
    have hS : ({ q with SM := adel q.SM c, SE := avDel q.SE c } : QueueG).S = leaveS q.S tid c := by
      funext c'
      unfold leaveS
      rw [← hl, hl0]
      exact avL_del
    refine hR _ { q with SM := adel q.SM c, SE := avDel q.SE c } ?_ ⟨hq.s.del c, hq.o, hq.few, hq.on, fun c' => ?_⟩ rfl hS rfl
    · refine (h3.perm (L' := vecL 3 v ++ (({ q with SM := adel q.SM c, SE := avDel q.SE c } : QueueG).L ++ Fr)) (by_count fun a => ?_)).sub (List.sublist_append_right _ _)
      rw [hQ0]
      simp only [QueueG.L, QueueG.cells, List.set_cons_zero, List.count_append, List.cons_append, List.count_cons]
      omega
    · rw [hS]
      unfold leaveS
      by_cases hc : c' = c
      · rw [if_pos hc, ← hl]; exact hll
      · rw [if_neg hc]; exact hq.sl c'
  · have hup := run_mapUpdate (P := Try.prog) (t := 49) Try.underlying49 keyChan hq.s.mnd (h2m.get 0 rfl) c (.slice (vecA v) l.length (vecC v))
    refine ⟨_, hat2.2, _, _, _, hat2.1, _, hup, ?_⟩
    have h3 := h2m.setObj 0 rfl (o' := mapObj chanE (aput q.SM q.sclk c (.slice (vecA v) l.length (vecC v))).1 (aput q.SM q.sclk c (.slice (vecA v) l.length (vecC v))).2)
    obtain ⟨q', hq'⟩ : ∃ q' : QueueG, q' = { q with SM := (aput q.SM q.sclk c (.slice (vecA v) l.length (vecC v))).1, sclk := (aput q.SM q.sclk c (.slice (vecA v) l.length (vecC v))).2, SE := ⟨c, v, l⟩ :: avDel q.SE c } := ⟨_, rfl⟩
    have hS : q'.S = leaveS q.S tid c := by
      funext c'
      unfold leaveS
      rw [← hl, hq']
      exact avL_put
    refine hR _ q' ?_ ?_ (by rw [hq']) hS (by rw [hq'])
    · refine h3.perm (by_count fun a => ?_)
      rw [hQ0, hq']
      simp only [QueueG.L, QueueG.cells, avBlocks, List.flatMap_cons, List.set_cons_zero, List.count_append, List.cons_append, List.count_cons]
      omega
    · have hs := hq.s.put c hv
      refine ⟨by rw [hq']; exact hs, by rw [hq']; exact hq.o, by rw [hq']; exact hq.few, by rw [hq']; exact hq.on, fun c' => ?_⟩
      rw [hS]
      unfold leaveS
      by_cases hc : c' = c
      · rw [if_pos hc, ← hl]; exact hll
      · rw [if_neg hc]; exact hq.sl c'
end
end Go.Proofs.Ytmffnjdndhkbhaa
