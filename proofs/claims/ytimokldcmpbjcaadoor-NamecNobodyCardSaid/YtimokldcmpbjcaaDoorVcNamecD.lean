/- A part of the proof: lemmas. -/
import Derived.Test.YtimokldcmpbjcaaDoorVcNamecC
namespace Go.Proofs.YtimokldcmpbjcaaDoor
open Go Go.Vc
set_option maxRecDepth 100000
set_option linter.unusedVariables false
section
variable {w0 w : World} {Im : Mem} {Fr L : List (Nat × Obj)} {d : DomG} {R : Ending → World → Prop}

theorem made_ints (n : Nat) : madeCells (Value.int .i64 0).cells (n * 1) = (i64s (List.replicate n 0)).toArray := by
  apply Array.ext
  · simp [madeCells, i64s]
  · intro i h1 h2
    simp [madeCells, i64s, Value.cells, Nat.mod_one]
theorem made_bools (n : Nat) : madeCells (Value.bool false).cells (n * 1) = (bools (List.replicate n false)).toArray := by
  apply Array.ext
  · simp [madeCells, bools]
  · intro i h1 h2
    simp [madeCells, bools, Value.cells, Nat.mod_one]

/-- rcu.New's loop. -/
theorem new_loop {n : Nat} (hn1 : 1 ≤ n) (hn8 : n ≤ 8) {db nb pb : Nat}
    (h : Own w0 Im w ((db, .cells #[.slice (some ⟨nb, 0, none⟩) n n, .slice (some ⟨pb, 0, none⟩) n n, .int .i64 0, .slice none 0 0] 75 (0, 0)) :: (nb, .cells (i64s (List.replicate n 0)).toArray 3 (0, 0)) :: (pb, .cells (bools (List.replicate n false)).toArray 4 (0, 0)) :: L))
    (hR : ∀ w' d, Own w0 Im w' (d.L ++ L) → DomOk d → d.db = db → d.nest = List.replicate n 0 → d.passed = List.replicate n true → d.epoch = 0 → d.waits = [] → R (.returned (.tuple #[.pointer (some ⟨db, 0, none⟩), .int .i64 0])) w') :
    ∃ x8 : Option Addr, ∃ x8l : Nat, ∃ x8c : Nat, World.cell? w ⟨db, 0 + 1, none⟩ = some (.slice x8 x8l x8c) ∧ (∃ I18 : Nat → Int → World → Prop, (∃ m, I18 m 0 w) ∧ ∀ (m10 : Nat) (v9 : Int) (w11 : World), I18 m10 v9 w11 → ((((v9 : Int) < ((x8l : Nat) : Int)) → (∃ x12 : Option Addr, ∃ x12l : Nat, ∃ x12c : Nat, World.cell? w11 ⟨db, 0 + 1, none⟩ = some (.slice x12 x12l x12c) ∧ (∃ (b13 o14 : Nat), x12 = some ⟨b13, o14, none⟩ ∧ ((0 : Int) ≤ v9 ∧ v9 < ((x12l : Nat) : Int) ∧ ((World.cell? w11 ⟨b13, o14 + (v9 : Int).toNat, none⟩).isSome = true ∧ World.frozen? w11 ⟨b13, o14 + (v9 : Int).toNat, none⟩ = false ∧ ∀ w15 : World, w15 = World.setCell w11 ⟨b13, o14 + (v9 : Int).toNat, none⟩ (.bool true) → (∀ r16 : Int, r16 = IntKind.wrap .i64 (v9 + 1) → (∃ m17, m17 < m10 ∧ I18 m17 r16 w15))))))) ∧ ((¬ ((v9 : Int) < ((x8l : Nat) : Int))) → R (.returned (.tuple #[.pointer (some ⟨db, 0, none⟩), .int .i64 0])) w11))) := by
  refine ⟨_, _, _, h.cell 0 rfl _, fun m v w' => ∃ k, m = n - k ∧ v = (k : Nat) ∧ k ≤ n ∧ Own w0 Im w' ((db, .cells #[.slice (some ⟨nb, 0, none⟩) n n, .slice (some ⟨pb, 0, none⟩) n n, .int .i64 0, .slice none 0 0] 75 (0, 0)) :: (nb, .cells (i64s (List.replicate n 0)).toArray 3 (0, 0)) :: (pb, .cells (bools (List.replicate k true ++ List.replicate (n - k) false)).toArray 4 (0, 0)) :: L),
    ⟨_, 0, rfl, rfl, by omega, by simpa using h⟩, ?_⟩
  rintro m v w11 ⟨k, rfl, rfl, hk, h11⟩
  refine ⟨fun hlt => ?_, fun hge => ?_⟩
  · have ek : ((k : Nat) : Int).toNat = k := by omega
    have hk' : k < n := by omega
    refine ⟨_, _, _, h11.cell 0 rfl _, _, _, rfl, by omega, hlt, ?_⟩
    rw [ek, Nat.zero_add]
    have hin : k < (bools (List.replicate k true ++ List.replicate (n - k) false)).toArray.size := by simp [bools]; omega
    refine ⟨by rw [h11.cell 2 rfl _, Array.getElem?_eq_getElem hin]; rfl, h11.frozen 2 rfl _, fun w15 e15 r16 e16 => ?_⟩
    rw [wrap_id (by omega) (by omega)] at e16
    have h15 := h11.set 2 rfl k (.bool true)
    rw [← e15] at h15
    have e : (bools (List.replicate k true ++ List.replicate (n - k) false)).toArray.setIfInBounds k (.bool true) = (bools (List.replicate (k + 1) true ++ List.replicate (n - (k + 1)) false)).toArray := by
      have e1 : n - k = (n - (k + 1)) + 1 := by omega
      rw [e1, List.replicate_succ, List.replicate_succ', List.append_assoc]
      simp [bools]
    rw [e] at h15
    exact ⟨_, by omega, k + 1, rfl, by omega, by omega, h15⟩
  · have e : k = n := by omega
    subst e
    have h11' : Own w0 Im w11 ((db, .cells #[.slice (some ⟨nb, 0, none⟩) k k, .slice (some ⟨pb, 0, none⟩) k k, .int .i64 0, .slice none 0 0] 75 (0, 0)) :: (nb, .cells (i64s (List.replicate k 0)).toArray 3 (0, 0)) :: (pb, .cells (bools (List.replicate k true)).toArray 4 (0, 0)) :: L) := by simpa using h11
    refine hR w11 { db := db, nb := nb, nest := List.replicate k 0, pb := pb, passed := List.replicate k true, epoch := 0, wv := none, waits := [] } ?_ ⟨VecOk.nil, by simpa using hn1, by simpa using hn8, by simp⟩ rfl rfl rfl rfl rfl
    unfold DomG.L DomG.cells
    simp only [List.length_replicate, vecL, vecA, vecC, List.length_nil]
    exact h11'

/-- rcu.New -/
theorem s11 {n : Int} (h : Own w0 Im w L) (h1 : 1 ≤ n) (h8 : n ≤ 8)
    (hR : ∀ w' d, Own w0 Im w' (d.L ++ L) → DomOk d → d.nest = List.replicate n.toNat 0 → d.passed = List.replicate n.toNat true → d.epoch = 0 → d.waits = [] → R (.returned (.tuple #[.pointer (some ⟨d.db, 0, none⟩), .int .i64 0])) w') :
    Calls Tryd.prog 11 #[.int .i64 n] w R := by
  apply vc11
  unfold Vc11
  have hd := h.drew
  have hR' : ∀ db w' (d : DomG), Own w0 Im w' (d.L ++ L) → DomOk d → d.db = db → d.nest = List.replicate n.toNat 0 → d.passed = List.replicate n.toNat true → d.epoch = 0 → d.waits = [] → R (.returned (.tuple #[.pointer (some ⟨db, 0, none⟩), .int .i64 0])) w' := by
    intro db w' d ho hk e a b c e2
    subst e; exact hR w' d ho hk a b c e2
  refine ⟨fun e => (by omega), fun _ => ⟨fun e => (by omega), fun _ => ⟨?_, ?_⟩⟩⟩
  · obtain ⟨w2, hm2, h2⟩ := own_make (t := 38) (e := 3) (bytes := 8) (size := 1) (z := .int .i64 0) Tryd.underlying38 Tryd.type3 rfl rfl rfl hd (kl := .i64) (kc := .i64) (l := n) (c := n) (by omega) (Int.le_refl _) (by omega) (by omega)
    obtain ⟨w4, hm4, h4⟩ := own_make (t := 72) (e := 4) (bytes := 1) (size := 1) (z := .bool false) Tryd.underlying72 Tryd.type4 rfl rfl rfl h2 (kl := .i64) (kc := .i64) (l := n) (c := n) (by omega) (Int.le_refl _) (by omega) (by omega)
    rw [made_ints, made_bools] at h4
    refine ⟨_, _, _, w2, hm2, _, _, _, w4, hm4, fun b6 w7 e6 e7 => ?_⟩
    have h7 := h4.alloc' e6 e7
    exact new_loop (n := n.toNat) (by omega) (by omega) (h7.perm ((List.Perm.swap _ _ _).cons _)) (hR' b6)
  · obtain ⟨w2, hm2, h2⟩ := own_make (t := 72) (e := 4) (bytes := 1) (size := 1) (z := .bool false) Tryd.underlying72 Tryd.type4 rfl rfl rfl hd (kl := .i64) (kc := .i64) (l := n) (c := n) (by omega) (Int.le_refl _) (by omega) (by omega)
    obtain ⟨w4, hm4, h4⟩ := own_make (t := 38) (e := 3) (bytes := 8) (size := 1) (z := .int .i64 0) Tryd.underlying38 Tryd.type3 rfl rfl rfl h2 (kl := .i64) (kc := .i64) (l := n) (c := n) (by omega) (Int.le_refl _) (by omega) (by omega)
    rw [made_ints, made_bools] at h4
    refine ⟨_, _, _, w2, hm2, _, _, _, w4, hm4, fun b6 w7 e6 e7 => ?_⟩
    have h7 := h4.alloc' e6 e7
    exact new_loop (n := n.toNat) (by omega) (by omega) h7 (hR' b6)
end
end Go.Proofs.YtimokldcmpbjcaaDoor
