/- A part of the proof: lemmas. -/
import Derived.Test.YtimokldcmpbjcaaDoorVcNamecK
namespace Go.Proofs.YtimokldcmpbjcaaDoor
open Go Go.Vc
set_option maxRecDepth 100000
set_option linter.unusedVariables false
section
variable {w0 w : World} {Im : Mem} {Fr L : List (Nat × Obj)} {R : Ending → World → Prop}

/-- sameTexts of the same ones. -/
theorem s10 {x y : VecB} {ts : List (List UInt8)} (h : Own w0 Im w (vecL 9 x ++ (vecL 9 y ++ L))) (hx : VecOk 1 x ts.length (ts.map sv)) (hy : VecOk 1 y ts.length (ts.map sv)) (hl : ts.length ≤ 4611686018427387904)
    (hR : ∀ w', Own w0 Im w' (vecL 9 x ++ (vecL 9 y ++ L)) → R (.returned (.bool true)) w') :
    Calls Tryd.prog 10 #[.slice (vecA x) ts.length (vecC x), .slice (vecA y) ts.length (vecC y)] w R := by
  apply vc10
  unfold Vc10
  refine ⟨fun e => absurd rfl e, fun _ => ⟨fun m v w' => ∃ j : Nat, m = ts.length - j ∧ v = j ∧ j ≤ ts.length ∧ Own w0 Im w' (vecL 9 x ++ (vecL 9 y ++ L)), ⟨_, 0, rfl, rfl, by omega, h⟩, ?_⟩⟩
  rintro m v w5 ⟨j, rfl, rfl, hj, h5⟩
  refine ⟨fun hlt => ?_, fun hge => hR w5 h5⟩
  have hj' : j < ts.length := by omega
  have ej : ((j : Nat) : Int).toNat = j := by omega
  have h5 := h5.drew
  obtain ⟨b, eb, cb⟩ := vec_at (e := 9) h5 (fun p hp => by simp [hp]) hx (j := j) (u := sv ts[j]) (by simp [hj'])
  obtain ⟨b', eb', cb'⟩ := vec_at (e := 9) h5 (fun p hp => by simp [hp]) hy (j := j) (u := sv ts[j]) (by simp [hj'])
  refine ⟨_, _, eb, by omega, hlt, _, _, eb', by omega, hlt, _, by rw [ej, Nat.zero_add]; exact cb, _, by rw [ej, Nat.zero_add]; exact cb', fun e => ?_, fun _ r12 e12 => ?_⟩
  · simp at e
  · rw [wrap_id (by omega) (by omega)] at e12
    exact ⟨_, by omega, j + 1, rfl, by omega, by omega, h5⟩

theorem names_lives : names [47, 47, 97, 47, 98, 47] = some [[97], [98]] := by decide

theorem new_ok {cb mb : Nat} {d : DomG} {room : Int} (hd : DomOk d) (hw : d.waits = []) (h1 : 1 ≤ room) (h2 : room ≤ 4096) : CacheOk { cb := cb, d := d, room := room, mb := mb, M := [], clk := 0, ov := none, E := [], last := 0 } :=
  ⟨hd, VecE.nil, List.nodup_nil, fun k => rfl, List.nodup_nil, fun _ h => (by cases h), fun _ h => (by cases h), fun g hg => (by rw [hw] at hg; cases hg), List.nodup_nil, Int.le_refl _, h1, h2, by simp; omega⟩

/-- lives -/
theorem s9 (h : Own w0 Im w L) (hm : MaxLen Im) (hR : ∀ w', Own w0 Im w' L → R (.returned (.bool true)) w') : Calls Tryd.prog 9 #[] w R := by
  apply vc9
  unfold Vc9
  refine s7 h hm ⟨#[47, 47, 97, 47, 98, 47]⟩ (fun e => absurd e (by rw [show (⟨#[47, 47, 97, 47, 98, 47]⟩ : ByteArray).data.toList = [47, 47, 97, 47, 98, 47] from rfl, names_lives]; simp)) fun out w3 x e h3 hx => ⟨_, _, _, _, rfl, ?_⟩
  rw [show (⟨#[47, 47, 97, 47, 98, 47]⟩ : ByteArray).data.toList = [47, 47, 97, 47, 98, 47] from rfl, names_lives] at e
  cases e
  refine s11 h3 (by omega) (by omega) fun w7 d h7 hd hn hp he hw => ⟨_, _, rfl, ?_⟩
  refine s12 h7 hd (fun e => by omega) fun w11 cb mb h41 h42 h11 => ⟨_, _, rfl, fun e => absurd rfl e, fun _ => ⟨fun e => absurd rfl e, fun _ => ⟨fun e => absurd rfl e, fun _ => ⟨fun e => (by cases e), fun _ => ⟨fun e => absurd rfl e, fun _ => ?_⟩⟩⟩⟩⟩
  obtain ⟨b, eb, hcell⟩ := vec_at (e := 9) h11 (fun p hp => by simp [hp]) hx (j := 1) (u := sv [98]) rfl
  refine ⟨_, _, eb, by omega, by decide, _, hcell, fun e => by rw [show (⟨#[98]⟩ : ByteArray) = ba [98] from rfl, ba_beq] at e; simp at e, fun _ => ?_⟩
  have hc := new_ok (cb := cb) (mb := mb) hd hw h41 h42
  refine s15 (k := ((1 : Int), (⟨#[120]⟩ : ByteArray))) h11 hc (by show d.waits.length < _; rw [hw]; decide) (by show (0 : Int) < _; decide) 5 (fun e => absurd e (by decide)) fun w17 c1 _ h17 hc1 ht1 => ⟨_, rfl, ?_⟩
  have hE1 : c1.E = [⟨((1 : Int), (⟨#[120]⟩ : ByteArray)), 5, 0 + 1⟩] := ht1.E
  have hf1 : findK c1.E ((1 : Int), (⟨#[120]⟩ : ByteArray)) = some ⟨((1 : Int), (⟨#[120]⟩ : ByteArray)), 5, 0 + 1⟩ := by rw [hE1]; simp [findK]
  refine at_cb (n := c1.cb) ht1.cb ?_
  refine s13 h17 hc1 ((1 : Int), (⟨#[120]⟩ : ByteArray)) fun w21 h21 => ?_
  rw [hf1]
  refine ⟨_, _, rfl, fun _ => ⟨fun _ => ?_, fun e => (by cases e)⟩, fun e => absurd rfl e⟩
  refine at_cb (n := c1.cb) ht1.cb ?_
  have hw1 : c1.d.waits = [] := by rw [ht1.waits]; show d.waits ++ _ = _; rw [hw]; rfl
  refine s17 h21 hc1 (by rw [hw1]; decide) ((1 : Int), (⟨#[120]⟩ : ByteArray)) (fun e => by rw [hf1] at e; cases e) fun w24 c2 x9 hx2 h24 hc2 ht2 => ⟨_, rfl, fun _ => ?_, fun e => (by cases e)⟩
  have hw2 : c2.d.waits.length = 1 := by rw [ht2.waits, hw1]; rfl
  refine at_cb (n := c2.d.db) (ht2.db.trans ht1.db) ?_
  refine s21 (Fr := c2.H ++ (vecL 9 x ++ L)) (h24.perm (perm_l c2.H c2.d.L (vecL 9 x ++ L))) hc2.dom (by omega) fun w27 x2 h27 hx2 => ⟨_, _, _, rfl, ?_⟩
  rw [hw2]
  refine hR w27 (h27.sub ?_)
  exact (((List.sublist_append_right _ _).trans (List.sublist_append_right _ _)).trans (List.sublist_append_right _ _)).trans (List.sublist_append_right _ _)

/-- The law NamecSplits. -/
theorem s3 (h : Own w0 Im w L) (hm : MaxLen Im) (p : ByteArray) (hR : ∀ w', Own w0 Im w' L → R (.returned (.bool true)) w') : Calls Tryd.prog 3 #[.string p] w R := by
  apply vc3
  unfold Vc3
  refine s7 h hm p (fun hn w4 h4 => ⟨_, _, _, _, rfl, ?_⟩) fun out w4 x e h4 hx => ⟨_, _, _, _, rfl, ?_⟩
  · refine s8 h4 p (fun _ w8 h8 => ⟨_, _, _, _, rfl, ?_⟩) fun out w8 x e => absurd (hn.symm.trans e) (by simp)
    refine s9 h8 hm fun w11 h11 => ⟨_, rfl, fun _ => ?_, fun e => (by cases e)⟩
    refine s10 (x := none) (y := none) (ts := []) h11 VecOk.nil VecOk.nil (by decide) fun w14 h14 => ⟨_, rfl, fun _ => hR w14 h14, fun e => (by cases e)⟩
  · refine s8 h4 p (fun hn => absurd (hn.symm.trans e) (by simp)) fun out2 w8 x2 e2 h8 hx2 => ⟨_, _, _, _, rfl, ?_⟩
    have e3 : out = out2 := Option.some.inj (e.symm.trans e2)
    subst e3
    have hl : out.length ≤ 4611686018427387904 := by
      have := hx.2.1
      have := hx.2.2.1
      simp only [maxLen] at this
      unfold names at e
      split at e
      · cases e
      · split at e
        · cases e
        · cases e
          rename_i hh
          have : ¬ 32 < ((segs p.data.toList).filter fun s => decide (s ≠ [])).length := fun h => hh (.inr h)
          omega
    refine s9 h8 hm fun w11 h11 => ⟨_, rfl, fun _ => ?_, fun e => (by cases e)⟩
    refine s10 (h11.perm (perm_l (vecL 9 x2) (vecL 9 x) L)) hx hx2 hl fun w14 h14 => ⟨_, rfl, fun _ => hR w14 (h14.sub ((List.sublist_append_right _ _).trans (List.sublist_append_right _ _))), fun e => (by cases e)⟩
end
end Go.Proofs.YtimokldcmpbjcaaDoor
