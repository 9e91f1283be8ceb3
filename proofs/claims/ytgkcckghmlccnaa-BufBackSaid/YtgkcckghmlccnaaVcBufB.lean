/- A part of the proof: lemmas. -/
import Derived.Test.YtgkcckghmlccnaaVcBufA
namespace Go.Proofs.Ytgkcckghmlccnaa
open Go Go.Vc
set_option maxRecDepth 100000
set_option linter.unusedVariables false
section
variable {w0 w : World} {Im : Mem} {Fr L : List (Nat × Obj)} {d : DiskG} {cnt : Nat} {R : Ending → World → Prop}

/-- (*Disk).Write -/
theorem s26 (h : Own w0 Im w (d.L ++ Fr)) (hd : DiskOk Im d cnt) {n : Int} (h0 : 0 ≤ n) (h1 : n < cnt) {a : Option Addr} {c : Nat} {bs : List Int} (hb : BytesIn Im a 512 bs) (hS : d.S.length < 4398046511103)
    (hR : ∀ Im' w' d', Im.le Im' → Own w0 Im' w' (d'.L ++ Fr) → DiskOk Im' d' cnt → d'.db = d.db → d'.plb = d.plb → (∃ a' c', d'.S = d.S ++ [⟨n, a', c', bs⟩]) → R (.returned (.int .i64 0)) w') :
    Calls Try.prog 26 #[.pointer (some ⟨d.db, 0, none⟩), .int .i64 n, .slice a 512 c] w R := by
  apply vc26
  unfold Vc26
  refine ⟨fun e => (by cases e), fun _ => s33 h hd ⟨_, rfl, fun _ => ⟨fun e => absurd rfl e, fun _ => ?_⟩, fun e => (by simp [h0, h1] at e)⟩⟩
  refine s30 h ⟨_, rfl, fun _ => ?_, fun e => (by cases e)⟩
  obtain ⟨b, o, ea, hc⟩ := hb.cells h
  rw [ea]
  refine s23 h hc hb.1.symm (by omega) (by omega) fun Im1 w11 a1 c1 hle1 h11 hb1 => ⟨_, _, _, rfl, ?_⟩
  have hd1 := hd.mono hle1
  intro b13 w14 e13 e14
  have h14 := h11.alloc' e13 e14
  refine ⟨h14.putOk 0 rfl (by simp), fun w15 e15 => ?_⟩
  have h15 : Own w0 Im1 w15 ((b13, .cells #[.int .i64 n, .slice a1 512 c1] 66 (0, 0)) :: (d.L ++ Fr)) := by rw [e15]; exact h14.put [.int .i64 n, .slice a1 512 c1] 0 0 rfl 0
  have h15 := h15.drew
  refine ⟨_, _, rfl, _, _, _, h15.cell 1 rfl _, n, a1, 512, c1, h15.cellsAt 0 rfl (fun j v hj => by simpa using hj), ?_⟩
  intro b21 w22 e21 e22
  have h22 := h15.alloc' e21 e22
  refine ⟨h22.cell 2 rfl _, ?_⟩
  have h22' : Own w0 Im1 w22 (vecL 66 d.pend ++ ([(b21, .cells #[.int .i64 n, .slice a1 512 c1] 66 (0, 0)), (b13, .cells #[.int .i64 n, .slice a1 512 c1] 66 (0, 0)), (d.db, .cells d.cells 51 (0, 0)), (d.pb, .cells (u8s d.plb).toArray 5 (0, 0)), (d.mb, mapObj (encI .i64) d.M d.clk)] ++ Fr)) :=
    h22.perm (perm_l [_, _, _, _, _] (vecL 66 d.pend) Fr)
  obtain ⟨x', w23, hr, ho, hx⟩ := own_append (t := 49) (ty := 49) (e := 66) (bytes := 32) (size := 2) (z := .agg #[.int .i64 0, .slice none 0 0]) (a := ⟨b21, 0, none⟩) (m := 1) (c := 1) (news := [.int .i64 n, .slice a1 512 c1]) Try.underlying49 Try.type66 rfl rfl rfl rfl h22' hd1.vec rfl
    (h22.cellsAt 0 rfl (fun j v hj => by simpa using hj)) (by intro u hu; simp at hu; rcases hu with rfl | rfl <;> rfl) (by omega) (by omega) (by simp only [maxLen]; omega)
  refine ⟨_, _, _, w23, hr, ?_⟩
  have h23 : Own w0 Im1 w23 ([(b13, .cells #[.int .i64 n, .slice a1 512 c1] 66 (0, 0)), (d.db, .cells d.cells 51 (0, 0)), (d.pb, .cells (u8s d.plb).toArray 5 (0, 0)), (d.mb, mapObj (encI .i64) d.M d.clk)] ++ (vecL 66 x' ++ Fr)) :=
    (ho.perm (perm_l [_, _, _, _, _] (vecL 66 x') Fr).symm).tail rfl
  refine ⟨by rw [h23.cell 1 rfl _]; rfl, h23.frozen 1 rfl _, fun w25 e25 => ?_⟩
  have h25 : Own w0 Im1 w25 ([(b13, .cells #[.int .i64 n, .slice a1 512 c1] 66 (0, 0)), (d.db, .cells ({ d with pend := x', S := d.S ++ [⟨n, a1, c1, bs⟩] } : DiskG).cells 51 (0, 0)), (d.pb, .cells (u8s d.plb).toArray 5 (0, 0)), (d.mb, mapObj (encI .i64) d.M d.clk)] ++ (vecL 66 x' ++ Fr)) := by
    have := h23.set 1 rfl 1 (.slice (vecA x') (d.S.length + 1) (vecC x'))
    rw [e25]
    unfold DiskG.cells
    simp only [List.length_append, List.length_cons, List.length_nil, Nat.zero_add]
    exact this
  have h25 := h25.drew
  refine ⟨_, h25.cell 1 rfl _, _, _, _, h25.cell 0 rfl _, ?_⟩
  have hup := run_mapUpdate (P := Try.prog) (t := 48) (K := 3) (E := 33) (enc := encI .i64) Try.underlying48 hkInt (w := w25.drew) (b := d.mb) (M := d.M) (clk := d.clk) hd.nd (h25.get 3 rfl) n (.slice a1 512 c1)
  refine ⟨_, hup, ?_⟩
  have h28 := h25.setObj 3 rfl (o' := mapObj (encI .i64) (aput d.M d.clk n (.slice a1 512 c1)).1 (aput d.M d.clk n (.slice a1 512 c1)).2)
  refine ⟨_, h28.cell 1 rfl _, fun r30 e30 => ⟨by rw [h28.cell 1 rfl _]; rfl, h28.frozen 1 rfl _, fun w31 e31 => ?_⟩⟩
  have h31 := h28.set 1 rfl 6 (.int .i64 r30)
  refine hR Im1 w31 { d with pend := x', S := d.S ++ [⟨n, a1, c1, bs⟩], M := (aput d.M d.clk n (.slice a1 512 c1)).1, clk := (aput d.M d.clk n (.slice a1 512 c1)).2, writes := r30 } hle1 ?_ ?_ rfl rfl ⟨_, _, rfl⟩
  · rw [e31]; exact h31.tail rfl
  · refine ⟨hd.len, hd.lo, hd.hi, ?_, ?_, nodup_put hd.nd, ?_⟩
    · simp only [List.length_append, List.length_cons, List.length_nil, List.flatMap_append, List.flatMap_cons, List.flatMap_nil, List.append_nil, Nat.zero_add]
      exact hx
    · intro p hp
      simp only [List.mem_append, List.mem_singleton] at hp
      rcases hp with hp | rfl
      · exact hd1.ws p hp
      · exact ⟨h0, h1, hb1⟩
    · intro m
      show aget (aput d.M d.clk n (.slice a1 512 c1)).1 m = (lastW (d.S ++ [⟨n, a1, c1, bs⟩]) m).map fun p => .slice p.a 512 p.c
      rw [aget_put, lastW_snoc]
      by_cases e : m = n
      · subst e; simp
      · rw [if_neg e, if_neg (fun h : n = m => e h.symm)]; exact hd.map m

/-- disk.New -/
theorem s6 (h : Own w0 Im w Fr) {n : Int} (h0 : 1 ≤ n) (h1 : n ≤ 4096)
    (hR : ∀ w' d, Own w0 Im w' (d.L ++ Fr) → DiskOk Im d n.toNat → d.S = [] → d.plb = List.replicate (n.toNat * 512) 0 → R (.returned (.tuple #[.pointer (some ⟨d.db, 0, none⟩), .int .i64 0])) w') :
    Calls Try.prog 6 #[.int .i64 n] w R := by
  apply vc6
  unfold Vc6
  refine ⟨fun e => (by omega), fun _ => ⟨fun e => (by omega), fun _ r2 e2 => ?_⟩⟩
  rw [wrap_id (by omega) (by omega)] at e2
  obtain ⟨w3, hm, h3⟩ := own_make (t := 33) (e := 5) (bytes := 1) (size := 1) (z := .int .u8 0) Try.underlying33 Try.type5 rfl rfl rfl h (kl := .i64) (kc := .i64) (l := r2) (c := r2) (by omega) (Int.le_refl _) (by omega) (by omega)
  refine ⟨_, _, _, w3, hm, ?_⟩
  intro b5 w6 e5 e6 b7 w8 e7 e8
  have h6 := h3.alloc' e5 e6
  have h8 := h6.alloc' e7 e8
  have hcells : madeCells (Value.int .u8 0).cells (r2.toNat * 1) = (u8s (List.replicate (n.toNat * 512) 0)).toArray := by
    apply Array.ext
    · simp [madeCells]; omega
    · intro i h1 h2
      simp [madeCells, u8s, Value.cells, Nat.mod_one]
  refine hR w8 { db := b7, pb := w.heap.size, plb := List.replicate (n.toNat * 512) 0, pend := none, S := [], mb := b5, M := [], clk := 0, left := 0, reads := 0, writes := 0, flushes := 0 } ?_ ?_ rfl rfl
  · rw [hcells] at h8
    have hp : ∀ (x y z : Nat × Obj), (x :: y :: z :: Fr).Perm (x :: z :: y :: Fr) := fun x y z => (List.Perm.swap z y Fr).cons x
    have h9 := h8.perm (hp _ _ _)
    have el : r2.toNat = (List.replicate (n.toNat * 512) (0 : Int)).length := by simp; omega
    rw [el] at h9
    exact h9
  · exact ⟨by simp, by omega, by omega, VecOk.nil, fun p hp => absurd hp List.not_mem_nil, List.nodup_nil, fun m => rfl⟩
theorem s6e {n : Int} (h0 : ¬ (1 ≤ n ∧ n ≤ 4096)) (hR : R (.returned (.tuple #[.pointer none, .int .i64 1])) w) : Calls Try.prog 6 #[.int .i64 n] w R := by
  apply vc6
  unfold Vc6
  exact ⟨fun _ => hR, fun _ => ⟨fun _ => hR, fun _ => (by omega)⟩⟩

/-- full -/
theorem s12 (h : Own w0 Im w L) {b : Int} (hR : ∀ Im' w' a c, Im.le Im' → Own w0 Im' w' L → BytesIn Im' a 512 (List.replicate 512 b) → R (.returned (.slice a 512 c)) w') : Calls Try.prog 12 #[.int .u8 b, .int .i64 0] w R := by
  apply vc12
  unfold Vc12
  refine ⟨fun m a l c i w' => ∃ x : VecB, a = vecA x ∧ c = vecC x ∧ i = l ∧ l ≤ 512 ∧ m = 512 - l ∧ Own w0 Im w' (vecL 5 x ++ L) ∧ VecOk 1 x l (u8s (List.replicate l b)),
    ⟨512, none, rfl, rfl, rfl, by omega, rfl, by simpa [vecL] using h, VecOk.nil⟩, ?_⟩
  rintro m a l c i w' ⟨x, rfl, rfl, rfl, hl, rfl, ho, hx⟩ r7 e7 r8 e8
  have e7' : r7 = 0 := by rw [e7]; rfl
  rw [e7', wrap_id (by omega) (by omega)] at e8
  refine ⟨fun hlt => ?_, fun hge => ?_⟩
  · intro b9 w10 e9 e10
    have h10 := ho.alloc' e9 e10
    have h10' : Own w0 Im w10 (vecL 5 x ++ ([(b9, .cells #[.int .u8 b] 5 (0, 0))] ++ L)) := h10.perm (perm_l [_] (vecL 5 x) L)
    obtain ⟨x', w11, hr, ho', hx'⟩ := own_append (t := 33) (ty := 33) (e := 5) (bytes := 1) (size := 1) (z := .int .u8 0) (a := ⟨b9, 0, none⟩) (m := 1) (c := 1) (news := [.int .u8 b]) Try.underlying33 Try.type5 rfl rfl rfl rfl h10' hx rfl
      (h10.cellsAt 0 rfl (fun j v hj => by simpa using hj)) (by intro u hu; simp at hu; subst hu; rfl) (by omega) (by omega) (by simp only [maxLen]; omega)
    refine ⟨_, _, _, w11, hr, fun r13 e13 => ?_⟩
    rw [wrap_id (by omega) (by omega)] at e13
    refine ⟨512 - (l + 1), by omega, x', rfl, rfl, by omega, by omega, rfl, ?_, ?_⟩
    · exact (ho'.perm (perm_l [_] (vecL 5 x') L).symm).tail rfl
    · have e : u8s (List.replicate (l + 1) b) = u8s (List.replicate l b) ++ [.int .u8 b] := by simp [u8s, List.replicate_succ']
      rw [e]; exact hx'
  · have e : l = 512 := by omega
    subst e
    cases x with
    | none => have := hx.2.1; simp [vecC] at this
    | some y =>
      obtain ⟨g, cap, cur⟩ := y
      have ho2 : Own w0 Im w' ((g, .cells cur.toArray 5 (0, 0)) :: L) := by simpa [vecL] using ho
      obtain ⟨hh, hle⟩ := ho2.hold
      refine hR _ _ _ _ hle hh ⟨by simp, g, 0, cur.toArray, 5, (0, 0), rfl, by simp [Mem.add], fun j v hj => ?_⟩
      obtain ⟨h1, h2, h3, h4, h5⟩ := hx
      have hj' : (u8s (List.replicate 512 b))[j]? = some (.int .u8 v) := by simp only [u8s, List.getElem?_map, hj, Option.map_some]
      rw [← h5, List.getElem?_take] at hj'
      split at hj'
      · simpa using hj'
      · cases hj'

/-- sameBytes -/
theorem s10 (h : Own w0 Im w L) {a a' : Option Addr} {l l' c c' : Nat} {bs bs' : List Int} (hb : BytesIn Im a l bs) (hb' : BytesIn Im a' l' bs') (hl : l ≤ 140737488355328)
    (hR : ∀ w', Own w0 Im w' L → R (.returned (.bool (decide (bs = bs')))) w') : Calls Try.prog 10 #[.slice a l c, .slice a' l' c'] w R := by
  have hbl := hb.1
  have hbl' := hb'.1
  apply vc10
  unfold Vc10
  refine ⟨fun hne => ?_, fun he => ?_⟩
  · have e : decide (bs = bs') = false := by
      rw [decide_eq_false_iff_not]; rintro rfl; omega
    have := hR w h
    rw [e] at this; exact this
  · have hll : l = l' := by omega
    refine ⟨fun m i w' => Own w0 Im w' L ∧ ∃ k : Nat, i = k ∧ k ≤ l ∧ m = l - k ∧ bs.take k = bs'.take k, ⟨l, h, 0, rfl, by omega, rfl, rfl⟩, ?_⟩
    rintro m i w' ⟨ho, k, rfl, hk, rfl, htk⟩
    refine ⟨fun hlt => ?_, fun hge => ?_⟩
    · have hkl : k < l := by omega
      obtain ⟨b, o, ea, hc⟩ := hb.cells ho.drew
      obtain ⟨b', o', ea', hc'⟩ := hb'.cells ho.drew
      have g1 : bs[k]? = some (bs[k]'(by omega)) := by simp
      have g2 : bs'[k]? = some (bs'[k]'(by omega)) := by simp
      have c1 := hc k (.int .u8 (bs[k]'(by omega))) (by simp [u8s, g1])
      have c2 := hc' k (.int .u8 (bs'[k]'(by omega))) (by simp [u8s, g2])
      rw [add_none] at c1 c2
      refine ⟨b, o, ea, by omega, by omega, b', o', ea', by omega, by omega, _, c1, _, c2, fun hne => ?_, fun heq r12 e12 => ?_⟩
      · have e : decide (bs = bs') = false := by
          rw [decide_eq_false_iff_not]; rintro rfl; exact hne rfl
        have := hR _ ho.drew
        rw [e] at this; exact this
      · rw [wrap_id (by omega) (by omega)] at e12
        refine ⟨l - (k + 1), by omega, ho.drew, k + 1, by omega, by omega, rfl, ?_⟩
        rw [List.take_succ_eq_append_getElem (by omega), List.take_succ_eq_append_getElem (by omega), htk, heq]
    · have e : k = l := by omega
      have hbb : bs = bs' := by
        have h1 : bs.take k = bs := List.take_of_length_le (by omega)
        have h2 : bs'.take k = bs' := List.take_of_length_le (by omega)
        rw [← h1, ← h2, htk]
      have := hR _ ho
      rw [decide_eq_true hbb] at this; exact this
end
end Go.Proofs.Ytgkcckghmlccnaa
