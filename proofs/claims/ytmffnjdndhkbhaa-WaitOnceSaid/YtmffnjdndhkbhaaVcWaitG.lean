/- A part of the proof: lemmas. -/
import Derived.Test.YtmffnjdndhkbhaaVcWaitSort
namespace Go.Proofs.Ytmffnjdndhkbhaa
open Go Go.Vc Go.RowKit Go.Maps Go.Sort Go.Shelf
set_option maxRecDepth 100000
set_option linter.unusedVariables false
section
variable {w0 w w' : World} {Im : Mem} {Fr L : List (Nat × Obj)} {q : QueueG} {R : Ending → World → Prop}
theorem own_below (h : Own w0 Im w L) (hb : Go.RowKit.Below w.heap.size w w') : Own w0 Im w' L :=
  ⟨hb.os.trans h.os, hb.tape.trans h.tape, hb.output.trans h.out, Nat.le_trans h.size hb.size, fun k o hk => (hb.block k (lt_of_heap (h.im k o hk))).trans (h.im k o hk), h.nd, fun p hp => (hb.block p.1 (lt_of_heap (h.own p hp))).trans (h.own p hp), h.apart⟩
theorem own_row {e n k : Nat} {v : Value} {xs : List Value} (h : Own w0 Im w L) (hb : Go.RowKit.Below w.heap.size w w') (hr : w'.ownsRow w.heap.size e n v k xs) :
    ∃ x : VecB, v = .slice (vecA x) k (vecC x) ∧ Own w0 Im w' (vecL e x ++ L) ∧ VecOk n x k xs := by
  have h' := own_below h hb
  obtain ⟨hl, ⟨rfl, rfl⟩ | ⟨g, cap, cur, rfl, hg, hgb, h1, h2, h3, h4⟩⟩ := hr
  · have : xs = [] := List.eq_nil_of_length_eq_zero (by simpa using hl)
    subst this
    exact ⟨none, rfl, h', VecOk.nil⟩
  · obtain ⟨f1, f2⟩ := h.fresh hg
    refine ⟨some (g, cap, cur.toList), rfl, ⟨h'.os, h'.tape, h'.out, h'.size, h'.im, ?_, ?_, ?_⟩, ⟨hl, h1, h2, by simpa using h3, h4⟩⟩
    · show (g :: L.map Prod.fst).Nodup
      exact List.nodup_cons.2 ⟨f2, h.nd⟩
    · intro p hp
      rcases List.mem_cons.1 hp with rfl | hp
      · simpa using hgb
      · exact h'.own p hp
    · intro p hp
      rcases List.mem_cons.1 hp with rfl | hp
      · exact f1
      · exact h'.apart p hp
theorem wf64 {n : Int} (h : 1 ≤ n ∧ n ≤ 9223372036854775807) : (Lit.int .i64 n).wf = true := by
  show (decide (IntKind.min .i64 ≤ n) && decide (n ≤ IntKind.max .i64)) = true
  rw [show IntKind.min .i64 = -9223372036854775808 from rfl, show IntKind.max .i64 = 9223372036854775807 from rfl, decide_eq_true (by omega), decide_eq_true (by omega)]
  rfl
/-- The map of sleepers, as the shelf reads it: its keys alone. -/
def RD : Value → Option (DataW Unit × List MemPlace) := fun _ => some (.nil, [])
theorem on_fit (hq : QOk q) : Go.WideElems.Fit Try.prog 3 RD (q.OM.map (toEnt (Vc.encI .i64))).toArray q.oclk := by
  have hkeys := hq.w.o.keys
  have hlen : q.OM.length ≤ 64 := by rw [hq.w.o.len]; exact hq.w.few
  refine ⟨by simp only [List.size_toArray, List.length_map, maxLen]; omega, (Go.MapKept.stamped_iff _ _).2 ⟨?_, ?_, ?_⟩, ?_⟩
  · intro x hx
    simp only [List.mem_map] at hx
    obtain ⟨e, he, rfl⟩ := hx
    exact hq.w.o.born.lt e he
  · have := hq.w.o.born.nd
    simpa [Function.comp_def, toEnt] using this
  · have := hq.w.o.mnd
    rw [List.nodup_iff_pairwise_ne, List.pairwise_map] at this
    simp only [List.pairwise_map]
    refine this.imp fun {a b} h e => h ?_
    simpa [toEnt, Vc.encI] using e
  · intro x hx
    simp only [List.mem_map] at hx
    obtain ⟨e, he, rfl⟩ := hx
    have hk : e.1 ∈ q.K := hkeys.mem_iff.1 (List.mem_map_of_mem he)
    have hp := hq.pos _ hk
    have hko : keyOf Try.prog 3 (Value.int .i64 e.1) = some (.int .i64 e.1) := Go.Maps.keyOf_int_mk Try.underlying3 (wf64 hp)
    exact ⟨(.int .i64 e.1, .nil), by unfold Go.WideElems.rd; simp [toEnt, Vc.encI, hko, RD]⟩
noncomputable def onD (q : QueueG) : DataW Unit := .map ((((q.OM.map (toEnt (Vc.encI .i64))).toArray.toList).map (Go.WideElems.rg Try.prog 3 RD)).foldr DataW.insert [])
theorem on_keys (hq : QOk q) : (intKeys (onD q)).Perm q.K := by
  unfold onD intKeys
  refine ((Go.WideShapes.sorted_perm _).map _).trans ?_
  rw [List.map_map, List.map_map]
  have e : q.OM.map (((fun p : Lit × DataW Unit => _root_.Go.intOf p.1) ∘ Go.WideElems.rg Try.prog 3 RD) ∘ toEnt (Vc.encI .i64)) = q.OM.map (·.1) := List.map_congr_left fun e he => by
    have hk : e.1 ∈ q.K := hq.w.o.keys.mem_iff.1 (List.mem_map_of_mem he)
    have hp := hq.pos _ hk
    have hko : keyOf Try.prog 3 (Value.int .i64 e.1) = some (.int .i64 e.1) := Go.Maps.keyOf_int_mk Try.underlying3 (wf64 hp)
    simp [Function.comp, Go.WideElems.rg, Go.WideElems.rd, toEnt, Vc.encI, hko, RD, _root_.Go.intOf]
  rw [e]
  exact hq.w.o.keys
theorem on_owns (h : Own w0 Im w L) (hm : (q.ob, mapObj (Vc.encI .i64) q.OM q.oclk) ∈ L) (hq : QOk q) : w.ownsMap Try.prog 3 RD q.ob 64 (onD q) :=
  ⟨_, _, h.mem hm, on_fit hq, by simp only [List.size_toArray, List.length_map]; rw [hq.w.o.len]; exact hq.w.few, rfl⟩
/-- All -/
theorem s13 (h : Own w0 Im w (q.L ++ Fr)) (hq : QOk q)
    (hR : ∀ w' x, Own w0 Im w' (vecL 3 x ++ (q.L ++ Fr)) → VecOk 1 x q.K.length ((q.K.mergeSort fun x y => decide (x ≤ y)).map (Value.int .i64 ·)) → R (.returned (.slice (vecA x) q.K.length (vecC x))) w') :
    Calls Try.prog 13 #[.pointer (some ⟨q.qb, 0, none⟩)] w R := by
  apply vc13
  unfold Vc13
  refine s17 h ⟨_, rfl, fun _ => ⟨_, _, rfl, _, h.cell 0 rfl _, ?_⟩, fun e => (by cases e)⟩
  have hown := on_owns h (by simp [QueueG.L]) hq
  have hsz : Go.Maps.size (onD q) ≤ 64 := by
    have h1 := (on_keys hq).length_eq
    have h2 : (intKeys (onD q)).length = Go.Maps.size (onD q) := by unfold onD intKeys Go.Maps.size; simp
    have h3 := hq.w.few
    unfold QueueG.K at h1
    rw [List.length_map] at h1
    omega
  have hbl := hown.lt
  have hseq : SeqGives Fence.wide 2 Try.prog 38 #[.pointer (some ⟨w.heap.size, 0, none⟩)] encZ (fun ss => ss.Perm (intKeys (onD q))) (Go.Maps.size (onD q)) (w.alloc (.cells #[.map (some q.ob)] 50)) :=
    AnyZI.keys_gives (ρ := Try.keysA_ren) { Try.keysA with } Fence.wide _ trivial rfl (by omega) w.heap.size q.ob 64 (onD q) _ (by simp) (by simp) (by
      obtain ⟨es, clock, hb, Ft, hs, hD⟩ := hown
      exact ⟨es, clock, (Go.RowKit.Below.heap_alloc _ _ q.ob hbl).trans hb, Ft, hs, hD⟩)
  have cK : CallsIn Fence.wide 5 Try.prog 24 #[.map (some q.ob)] w fun e w' => e = .returned (.func (.func 38) #[] #[.pointer (some ⟨w.heap.size, 0, none⟩)]) ∧ w' = w.alloc (.cells #[.map (some q.ob)] 50) := AnyZI.keys_in Try.keysA Fence.wide 5 trivial rfl (some q.ob) w
  have cS := AnyZI.sorted_in Try.sortedA Fence.wide 5 trivial trivial trivial trivial rfl (by omega) (sortsA _) (enters_of Try.func37 (by kernel_rfl) rfl) 38 #[.pointer (some ⟨w.heap.size, 0, none⟩)] trivial (enters_of Try.func38 (by kernel_rfl) rfl) _ _ (by simp only [maxLen]; omega) (by omega) _ hseq
  change CallsIn _ _ Try.prog 23 _ _ _ at cS
  refine (callsIn_wide.1 cK).mono fun e w9 ⟨he, hw⟩ => ?_
  refine ⟨_, he, ?_⟩
  subst hw
  have h9 : Own w0 Im (w.alloc (.cells #[.map (some q.ob)] 50)) (q.L ++ Fr) := (h.alloc _).tail rfl
  refine (callsIn_wide.1 cS).mono fun e w12 ⟨v, ss, he, hperm, hrow, hnil, hb⟩ => ?_
  obtain ⟨x, rfl, ho, hx⟩ := own_row h9 hb hrow
  have hp2 : ss.Perm q.K := hperm.trans (on_keys hq)
  have hms : ss.mergeSort (fun x y => decide (x ≤ y)) = q.K.mergeSort (fun x y => decide (x ≤ y)) := mergeSort_of_perm_i hp2
  have hle := hp2.length_eq
  rw [hms, hle] at hx
  rw [hle] at he
  exact ⟨_, _, _, he, hR w12 x ho hx⟩
end
end Go.Proofs.Ytmffnjdndhkbhaa
