/- A part of the proof: lemmas. -/
import Derived.Test.YtimokldcmpbjcaaDoorVcGenB
import Derived.Test.YtimokldcmpbjcaaDoorVcNamecN
namespace Go.Proofs.YtimokldcmpbjcaaDoor
open Go Go.Vc
set_option maxRecDepth 100000
set_option linter.unusedVariables false

section
variable {w0 w : World} {Im : Mem} {L : List (Nat × Obj)} {R : Ending → World → Prop}

/-- NewBlocks(1) -/
theorem s28 (h : Own w0 Im w L) (hR : ∀ w' b, Own w0 Im w' L → R (.returned (.pointer (some ⟨b, 0, none⟩))) w') : Calls Tryd.prog 28 #[.int .i64 1] w R := by
  apply vc28
  unfold Vc28
  intro b2 w3 e2 e3
  have h3 := h.alloc' e2 e3
  refine ⟨fun m v w' => (v = 0 ∧ m = 1 ∧ Own w0 Im w' ((b2, .cells #[.slice none 0 0] 91 (0, 0)) :: L)) ∨ (v = 1 ∧ m = 0 ∧ Own w0 Im w' L), ⟨_, .inl ⟨rfl, rfl, h3⟩⟩, ?_⟩
  rintro m v w6 (⟨rfl, rfl, h6⟩ | ⟨rfl, rfl, h6⟩)
  · refine ⟨fun _ => ?_, fun e => absurd (by decide) e⟩
    have h7 := h6.drew
    refine ⟨_, _, _, h7.cell 0 rfl 0, ?_⟩
    obtain ⟨w8, hm8, h8⟩ := own_make (t := 71) (e := 5) (bytes := 1) (size := 1) (z := .int .u8 0) Tryd.underlying71 Tryd.type5 rfl rfl rfl h7 (kl := .i64) (kc := .i64) (l := 512) (c := 512) (by omega) (by omega) (by omega) (by omega)
    refine ⟨_, _, _, _, hm8, ?_⟩
    have h8' := h8.perm (List.Perm.swap _ _ _)
    refine ⟨h8'.cell 0 rfl 0, fun b10 w11 e10 e11 => ?_⟩
    have h11 := (h8'.alloc' e10 e11)
    refine ⟨h11.cell 1 rfl 0, ?_⟩
    obtain ⟨x', w12, hr, h12, hx'⟩ := own_append (t := 89) (ty := 89) (e := 71) (bytes := 24) (size := 1) (z := .slice none 0 0) (a := ⟨b10, 0, none⟩) (m := 1) (c := 1) (x := none) (n := 0) (xs := []) (news := [.slice (some ⟨w6.drew.heap.size, 0, none⟩) 512 512])
      Tryd.underlying89 Tryd.type71 rfl rfl rfl rfl h11 VecOk.nil rfl
      (h11.cellsAt 0 rfl (fun j v hj => by simpa using hj)) (by intro u hu; simp at hu; subst hu; rfl) (by omega) (by omega) (by simp only [maxLen]; omega)
    refine ⟨_, _, _, w12, hr, ?_⟩
    have h12' := (h12.sub (List.sublist_append_right _ _)).tail rfl
    refine ⟨by rw [h12'.cell 0 rfl 0]; rfl, h12'.frozen 0 rfl 0, fun w14 e14 r15 e15 => ?_⟩
    have h14 := h12'.set 0 rfl 0 (.slice (vecA x') 1 (vecC x'))
    rw [wrap_id (by omega) (by omega)] at e15
    subst e15
    refine ⟨0, by omega, .inr ⟨rfl, rfl, ?_⟩⟩
    subst e14
    exact ((h14.tail rfl).tail rfl)
  · exact ⟨fun e => absurd e (by decide), fun _ => hR w6 b2 h6⟩
/-- layout -/
theorem s30 (h : Own w0 Im w L) (hR : ∀ w' x y z, Own w0 Im w' L → R (.returned (.agg #[.int .i64 x, .int .i64 y, .int .i64 z])) w') : Calls Tryd.prog 30 #[] w R := by
  apply vc30
  unfold Vc30
  intro b1 w2 e1 e2
  have h2 := h.alloc' e1 e2
  refine ⟨h2.putOk 0 rfl (by simp), fun w3 e3 => ?_⟩
  have h3 := h2.put [.int .i64 64, .int .i64 8, .int .i64 24] 0 0 rfl 0
  subst e3
  exact ⟨64, 8, 24, h3.cellsAt 0 rfl (fun j v hj => by
    match j, hj with
    | 0, hj => exact hj
    | 1, hj => exact hj
    | 2, hj => exact hj
    | j + 3, hj => simp at hj), hR _ _ _ _ (h3.tail rfl)⟩
theorem n34 (hR : R (.returned (.bool false)) w) : Calls Tryd.prog 34 #[.pointer none] w R := by
  apply vc34
  unfold Vc34
  exact ⟨fun e => absurd rfl e, fun _ => hR⟩
theorem n12 {n : Int} (hR : R (.returned (.tuple #[.pointer none, .int .i64 1])) w) : Calls Tryd.prog 12 #[.pointer none, .int .i64 n] w R := by
  apply vc12
  unfold Vc12
  exact ⟨fun _ => hR, fun e => absurd rfl e⟩
theorem n13 {a : Int} {s : ByteArray} (h : Own w0 Im w L) (hR : ∀ w', Own w0 Im w' L → R (.returned (.tuple #[.int .i64 0, .bool false])) w') : Calls Tryd.prog 13 #[.pointer none, .agg #[.int .i64 a, .string s]] w R := by
  apply vc13
  unfold Vc13
  intro b w5 e1 e2
  have h5 := (h.alloc' e1 e2).tail rfl
  exact n34 ⟨_, rfl, fun e => (by cases e), fun _ => hR _ h5⟩
theorem n15 {a n : Int} {s : ByteArray} (h : Own w0 Im w L) (hR : ∀ w', Own w0 Im w' L → R (.returned (.int .i64 6)) w') : Calls Tryd.prog 15 #[.pointer none, .agg #[.int .i64 a, .string s], .int .i64 n] w R := by
  apply vc15
  unfold Vc15
  intro b w5 e1 e2
  have h5 := (h.alloc' e1 e2).tail rfl
  exact n34 ⟨_, rfl, fun e => (by cases e), fun _ => hR _ h5⟩
theorem n17 {a : Int} {s : ByteArray} (h : Own w0 Im w L) (hR : ∀ w', Own w0 Im w' L → R (.returned (.bool false)) w') : Calls Tryd.prog 17 #[.pointer none, .agg #[.int .i64 a, .string s]] w R := by
  apply vc17
  unfold Vc17
  intro b w5 e1 e2
  have h5 := h.alloc' e1 e2
  refine ⟨a, s, h5.cellsAt 0 rfl (fun j v hj => by
    match j, hj with
    | 0, hj => exact hj
    | 1, hj => exact hj
    | j + 2, hj => simp at hj), ?_⟩
  exact n13 (h5.tail rfl) fun w' h' => ⟨_, _, rfl, fun e => (by cases e), fun _ => hR _ h'⟩
theorem n22 (hR : R (.returned (.slice none 0 0)) w) : Calls Tryd.prog 22 #[.pointer none] w R := by
  apply vc22
  unfold Vc22
  exact n34 ⟨_, rfl, fun e => (by cases e), fun _ => hR⟩
theorem n19 {n : Int} (hR : R (.returned (.int .i64 0)) w) : Calls Tryd.prog 19 #[.pointer none, .int .i64 n] w R := by
  apply vc19
  unfold Vc19
  exact n22 ⟨_, _, _, rfl, fun m v6 v7 w' => v6 = 0 ∧ v7 = 0 ∧ w' = w, ⟨0, rfl, rfl, rfl⟩, fun m v6 v7 w' ⟨e1, e2, e3⟩ => by
    subst e1 e2 e3
    exact ⟨fun e => absurd e (by decide), fun _ => hR⟩⟩
theorem n29 {s : Value} {x y z : Int} {p : ByteArray} (h : Own w0 Im w L) (hR : ∀ w', Own w0 Im w' L → R (.returned (.tuple #[.int .i64 0, .int .i64 6])) w') : Calls Tryd.prog 29 #[.pointer none, s, .agg #[.int .i64 x, .int .i64 y, .int .i64 z], .string p] w R := by
  apply vc29
  unfold Vc29
  intro b w5 e1 e2
  have h5 := (h.alloc' e1 e2).tail rfl
  exact n34 ⟨_, rfl, fun e => (by cases e), fun _ => hR _ h5⟩
theorem n31 {s : Value} {x y z : Int} {p : ByteArray} (h : Own w0 Im w L) (hR : ∀ w', Own w0 Im w' L → R (.returned (.tuple #[.int .i64 0, .string ⟨#[]⟩, .int .i64 6])) w') : Calls Tryd.prog 31 #[.pointer none, s, .agg #[.int .i64 x, .int .i64 y, .int .i64 z], .string p] w R := by
  apply vc31
  unfold Vc31
  intro b w5 e1 e2
  have h5 := (h.alloc' e1 e2).tail rfl
  exact n34 ⟨_, rfl, fun e => (by cases e), fun _ => hR _ h5⟩
/-- The law NamecNobody. -/
theorem s6 (h : Own w0 Im w []) (hm : MaxLen Im) {a n : Int} {s p : ByteArray} (hR : ∀ w', Own w0 Im w' [] → R (.returned (.bool true)) w') :
    Calls Tryd.prog 6 #[.agg #[.int .i64 a, .string s], .int .i64 n, .string p] w R := by
  apply vc6
  unfold Vc6
  intro b5 w6 e5 e6
  have h6 := h.alloc' e5 e6
  have hat : ∀ {w' : World}, Own w0 Im w' [(b5, .cells #[.int .i64 a, .string s] 42 (0, 0))] → CellsAt w' ⟨b5, 0, none⟩ [.int .i64 a, .string s] := fun h => h.cellsAt 0 rfl (fun j v hj => by
    match j, hj with
    | 0, hj => exact hj
    | 1, hj => exact hj
    | j + 2, hj => simp at hj)
  refine s28 h6 fun w8 b8 h8 => ⟨_, rfl, ?_⟩
  refine n12 ⟨_, _, rfl, a, s, hat h8, ?_⟩
  refine n13 h8 fun w18 h18 => ⟨_, _, rfl, ?_⟩
  refine s30 h18 fun w23 x1 y1 z1 h23 => ⟨_, _, _, rfl, ?_⟩
  refine n29 h23 fun w27 h27 => ⟨_, _, rfl, ?_⟩
  refine s30 h27 fun w32 x2 y2 z2 h32 => ⟨_, _, _, rfl, ?_⟩
  refine n31 h32 fun w37 h37 => ⟨_, _, _, rfl, ?_⟩
  refine s9 h37 hm fun w40 h40 => ⟨_, rfl, fun _ => ?_, fun e => (by cases e)⟩
  refine ⟨fun _ => ⟨fun _ => ⟨fun _ => ⟨fun e => (by cases e), fun _ => ⟨fun _ => ⟨fun _ => ⟨fun _ => ⟨fun _ => ⟨fun _ => ?_, fun e => absurd rfl e⟩, fun e => ?_⟩, fun e => absurd rfl e⟩, fun e => absurd rfl e⟩, fun e => absurd rfl e⟩⟩, fun e => absurd rfl e⟩, fun e => absurd rfl e⟩, fun e => absurd rfl e⟩
  · refine ⟨a, s, hat h40, ?_⟩
    refine n15 h40 fun w45 h45 => ⟨_, rfl, fun _ => ?_, fun e => absurd rfl e⟩
    refine ⟨a, s, hat h45, ?_⟩
    refine n17 h45 fun w50 h50 => ⟨_, rfl, fun e => (by cases e), fun _ => ?_⟩
    refine n19 ⟨_, rfl, fun _ => ?_, fun e => absurd rfl e⟩
    refine n22 ⟨_, _, _, rfl, ?_⟩
    exact hR _ (h50.tail rfl)
  · rw [beq_self_eq_true] at e; cases e
end
end Go.Proofs.YtimokldcmpbjcaaDoor
