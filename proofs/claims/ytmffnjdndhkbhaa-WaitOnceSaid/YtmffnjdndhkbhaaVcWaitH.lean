/- A part of the proof: lemmas. -/
import Derived.Test.YtmffnjdndhkbhaaVcWaitG
namespace Go.Proofs.Ytmffnjdndhkbhaa
open Go Go.Vc
set_option maxRecDepth 100000
set_option linter.unusedVariables false

theorem sleepE_perm {K K' : List Int} (h : K.Perm K') (tid : Int) (on : List Chan) : sleepE K tid on = sleepE K' tid on := by
  unfold sleepE
  rw [h.length_eq]
  have e : (tid ∈ K) = (tid ∈ K') := propext h.mem_iff
  simp only [e]
section
variable {w0 w : World} {Im : Mem} {Fr L : List (Nat × Obj)} {q : QueueG} {R : Ending → World → Prop}
/-- Numbers that stand in memory, whatever else turns. -/
def IReads (w0 : World) (Im : Mem) (a : Option Addr) (ks : List Int) (Fr : List (Nat × Obj)) : Prop := ∀ w' A, Own w0 Im w' (A ++ Fr) → ∀ j (hj : j < ks.length), ∃ b o, a = some ⟨b, o, none⟩ ∧ w'.cell? ⟨b, o + j, none⟩ = some (.int .i64 ks[j])
theorem IReads.vec {x : VecB} {ks : List Int} (hx : VecE intC 1 x ks) (hm : ∀ p ∈ vecL 3 x, p ∈ L) : IReads w0 Im (vecA x) ks L := fun w' A h j hj => by
  obtain ⟨g, eg, hc⟩ := int_at h (fun p hp => List.mem_append_right _ (hm p hp)) hx hj
  exact ⟨g, 0, eg, hc⟩
/-- sameInts -/
theorem s16 {a b : Option Addr} {k k' l l' : Nat} {xs ys : List Int} (h : Own w0 Im w L) (ha : IReads w0 Im a xs L) (hb : IReads w0 Im b ys L) (el : l = xs.length) (el' : l' = ys.length) (hl : xs.length ≤ 4611686018427387904)
    (hR : ∀ w', Own w0 Im w' L → R (.returned (.bool (decide (xs = ys)))) w') : Calls Try.prog 16 #[.slice a l k, .slice b l' k'] w R := by
  subst el el'
  apply vc16
  unfold Vc16
  refine ⟨fun e => ?_, fun e => ?_⟩
  · have := hR w h
    rw [decide_eq_false (fun h => e (by rw [h]))] at this
    exact this
  · have hlen : xs.length = ys.length := by omega
    refine ⟨fun m v w' => ∃ j : Nat, m = xs.length - j ∧ v = j ∧ j ≤ xs.length ∧ xs.take j = ys.take j ∧ Own w0 Im w' L, ⟨_, 0, rfl, rfl, by omega, rfl, h⟩, ?_⟩
    rintro m v w5 ⟨j, rfl, rfl, hj, he, h5⟩
    refine ⟨fun hlt => ?_, fun hge => ?_⟩
    · have hj' : j < xs.length := by omega
      have hj2 : j < ys.length := by omega
      have hd := h5.drew
      obtain ⟨g, o, eg, hc⟩ := ha _ [] hd j hj'
      obtain ⟨g', o', eg', hc'⟩ := hb _ [] hd j hj2
      refine ⟨_, _, eg, by omega, hlt, _, _, eg', by omega, by omega, _, hc, _, hc', fun hne => ?_, fun heq r12 e12 => ?_⟩
      · have := hR _ hd
        rw [decide_eq_false (fun h => hne (by simp only [h]))] at this
        exact this
      · rw [wrap_id (by omega) (by omega)] at e12
        refine ⟨_, by omega, j + 1, rfl, by omega, by omega, ?_, hd⟩
        rw [List.take_succ_eq_append_getElem hj', List.take_succ_eq_append_getElem hj2, he, heq]
    · have hj' : j = xs.length := by omega
      have := hR _ h5
      rw [hj', List.take_length, hlen, List.take_length] at he
      rw [decide_eq_true he] at this
      exact this
theorem one_reads {b : Nat} {n : Int} (hm : (b, Obj.cells #[.int .i64 n] 3 (0, 0)) ∈ L) : IReads w0 Im (some ⟨b, 0, none⟩) [n] L := fun w' A h j hj => by
  have : j = 0 := by simpa using hj
  subst this
  exact ⟨b, 0, rfl, by rw [cell_of (h.mem (List.mem_append_right _ hm))]; rfl⟩
def cA : Chan := (1, 0, 0)
def cB : Chan := (2, 0, 0)
def S1 := sleepS (fun _ => []) 1 [cA]
def S2 := sleepS S1 2 [cA, cB]
def S3 := sleepS S2 3 [cA]
def O1 := sleepO (fun _ => []) 1 [cA]
def O2 := sleepO O1 2 [cA, cB]
def O3 := sleepO O2 3 [cA]
def S4 := ((S3 cB).take 5).foldl cancelS S3
def O4 := ((S3 cB).take 5).foldl cancelO O3
def K4 : List Int := ((S3 cB).take 5).foldl cancelK [3, 2, 1]
def S5 := ((S4 cA).take 1).foldl cancelS S4
def O5 := ((S4 cA).take 1).foldl cancelO O4
def K5 : List Int := ((S4 cA).take 1).foldl cancelK K4
def M6 := moveAll S5 O5 cA cB 9 (S5 cA)
def K7 : List Int := ((M6.1 cB).take 1).foldl cancelK K5
theorem fold_perm {K K' : List Int} (l : List Int) (h : K.Perm K') : (l.foldl cancelK K).Perm (l.foldl cancelK K') := by
  induction l generalizing K K' with
  | nil => exact h
  | cons t l ih => exact ih (cancelK_perm h t)
/-- awake -/
theorem s6 (h : Own w0 Im w Fr) (hR : ∀ w', Own w0 Im w' Fr → R (.returned (.bool true)) w') : Calls Try.prog 6 #[] w R := by
  apply vc6
  unfold Vc6
  refine s5 h fun w2 q h2 hq hS hO hK => ⟨_, rfl, fun b4 w5 e4 e5 b6 w7 e6 e7 => ?_⟩
  have h7 := (h2.alloc' e4 e5).alloc' e6 e7
  have h7s := h7.perm (List.Perm.swap _ _ _)
  refine ⟨h7s.putOk 0 rfl (by simp), fun w8 e8 => ?_⟩
  have h8 := h7s.put (chanC cA) 0 0 rfl 0
  have e8' : w8 = putCells w7 ⟨b4, 0, none⟩ (chanC cA) 0 := e8
  rw [← e8'] at h8
  have h8s := h8.perm (List.Perm.swap _ _ _)
  refine ⟨h8s.putOk 0 rfl (by simp), fun w9 e9 => ?_⟩
  have h9 := h8s.put (chanC cB) 0 0 rfl 0
  have e9' : w9 = putCells w8 ⟨b6, 0, none⟩ (chanC cB) 0 := e9
  rw [← e9'] at h9
  obtain ⟨BA, hBA⟩ : ∃ B : Nat × Obj, B = (b4, Obj.cells (chanC cA).toArray 29 (0, 0)) := ⟨_, rfl⟩
  obtain ⟨BB, hBB⟩ : ∃ B : Nat × Obj, B = (b6, Obj.cells (chanC cB).toArray 29 (0, 0)) := ⟨_, rfl⟩
  have h9 : Own w0 Im w9 (BB :: BA :: (q.L ++ Fr)) := by rw [hBA, hBB]; exact h9
  have ca : ∀ {w' : World} {l : List (Nat × Obj)}, Own w0 Im w' l → BA ∈ l → CellsAt w' ⟨b4, 0, none⟩ (chanC cA) := fun h hm => chan_mem h (by rw [← hBA]; exact hm)
  have cb : ∀ {w' : World} {l : List (Nat × Obj)}, Own w0 Im w' l → BB ∈ l → CellsAt w' ⟨b6, 0, none⟩ (chanC cB) := fun h hm => chan_mem h (by rw [← hBB]; exact hm)
  obtain ⟨F, hF⟩ : ∃ F, F = BB :: BA :: Fr := ⟨_, rfl⟩
  have ma : ∀ {l : List (Nat × Obj)}, BA ∈ l ++ F := by rw [hF]; simp
  have mb : ∀ {l : List (Nat × Obj)}, BB ∈ l ++ F := by rw [hF]; simp
  have h9 : Own w0 Im w9 (q.L ++ F) := h9.perm (by rw [hF]; exact by_count fun a => by simp only [List.count_append, List.count_cons]; omega)
  have hend : ∀ {w' : World} {l : List (Nat × Obj)}, Own w0 Im w' (l ++ F) → R (.returned (.bool true)) w' := fun {w' l} h => hR w' (by
    rw [hF] at h
    exact h.sub ((List.sublist_cons_self _ _).trans ((List.sublist_cons_self _ _).trans (List.sublist_append_right _ _))))
  refine ⟨fun e => (by cases e), fun _ => ⟨_, _, _, ca h9 ma, fun b13 w14 e13 e14 => ?_⟩⟩
  have h14 := h9.alloc' e13 e14
  have vx : ∀ b, VecE chanC 3 (some (b, 1, chanC cA)) [cA] := fun b => ⟨rfl, Nat.le_refl _, by show 1 ≤ maxLen; decide, rfl, rfl⟩
  refine s7 (tid := 1) (on := [cA]) (Fr := vecL 29 (some (b13, 1, chanC cA)) ++ F) (h14.perm (List.perm_middle.symm)) hq (CReads.vec (vx b13)) (by decide) (by decide) (by decide) (fun hc => absurd (by rw [hK]; decide) hc) fun _ w16 q1 h16 hq1 ht1 => ⟨_, rfl, fun e => absurd rfl e, fun _ => ?_⟩
  have h16 : Own w0 Im w16 (q1.L ++ F) := h16.sub (List.Sublist.append_left (List.sublist_append_right _ _) _)
  have s1 : q1.S = S1 := by rw [ht1.S, hS]; rfl
  have o1 : q1.O = O1 := by rw [ht1.O, hO]; rfl
  have k1 : q1.K.Perm [1] := by have := ht1.K; rw [hK] at this; exact this
  refine ⟨_, _, _, ca h16 ma, _, _, _, cb h16 mb, fun b24 w25 e24 e25 => ?_⟩
  have h25 := h16.alloc' e24 e25
  have vy : VecE chanC 3 (some (b24, 2, chanC cA ++ chanC cB)) [cA, cB] := ⟨rfl, Nat.le_refl _, by show 2 ≤ maxLen; decide, rfl, rfl⟩
  rw [← ht1.qb]
  refine s7 (tid := 2) (on := [cA, cB]) (Fr := vecL 29 (some (b24, 2, chanC cA ++ chanC cB)) ++ F) (h25.perm (List.perm_middle.symm)) hq1 (CReads.vec vy) (by decide) (by decide) (by decide) (fun hc => absurd (by rw [sleepE_perm k1]; decide) hc) fun _ w27 q2 h27 hq2 ht2 => ⟨_, rfl, fun e => absurd rfl e, fun _ => ?_⟩
  have h27 : Own w0 Im w27 (q2.L ++ F) := h27.sub (List.Sublist.append_left (List.sublist_append_right _ _) _)
  have s2 : q2.S = S2 := by rw [ht2.S, s1]; rfl
  have o2 : q2.O = O2 := by rw [ht2.O, o1]; rfl
  have k2 : q2.K.Perm [2, 1] := ht2.K.trans (k1.cons 2)
  refine ⟨_, _, _, ca h27 ma, fun b32 w33 e32 e33 => ?_⟩
  have h33 := h27.alloc' e32 e33
  rw [← ht2.qb]
  refine s7 (tid := 3) (on := [cA]) (Fr := vecL 29 (some (b32, 1, chanC cA)) ++ F) (h33.perm (List.perm_middle.symm)) hq2 (CReads.vec (vx b32)) (by decide) (by decide) (by decide) (fun hc => absurd (by rw [sleepE_perm k2]; decide) hc) fun _ w35 q3 h35 hq3 ht3 => ⟨_, rfl, fun e => absurd rfl e, fun _ => ?_⟩
  have h35 : Own w0 Im w35 (q3.L ++ F) := h35.sub (List.Sublist.append_left (List.sublist_append_right _ _) _)
  have s3' : q3.S = S3 := by rw [ht3.S, s2]; rfl
  have o3 : q3.O = O3 := by rw [ht3.O, o2]; rfl
  have k3 : q3.K.Perm [3, 2, 1] := ht3.K.trans (k2.cons 3)
  refine ⟨_, _, _, cb h35 mb, ?_⟩
  rw [← ht3.qb]
  refine s9 (c := cB) (n := 5) h35 hq3 fun w41 q4 x h41 hq4 ht4 hx4 => ⟨_, _, _, rfl, fun b43 w44 e43 e44 => ?_⟩
  have l4 : (q3.S cB).take (5 : Int).toNat = [2] := by rw [s3']; decide
  have t4S : q4.S = S4 := by rw [ht4.S, s3']; rfl
  have t4O : q4.O = O4 := by rw [ht4.O, s3', o3]; rfl
  have t4K : q4.K.Perm K4 := by
    refine ht4.K.trans ?_
    rw [s3']
    exact fold_perm _ k3
  have h44 := h41.alloc' e43 e44
  rw [l4] at hx4 ⊢
  refine s16 (xs := [2]) (ys := [2]) h44 (IReads.vec hx4 (fun p hp => by simp [hp])) (one_reads (by simp)) rfl rfl (by decide) fun w46 h46 => ⟨_, rfl, fun _ => ?_, fun e => (by cases e)⟩
  have h46 : Own w0 Im w46 (q4.L ++ F) := (h46.tail rfl).sub (List.sublist_append_right _ _)
  refine ⟨_, _, _, ca h46 ma, ?_⟩
  rw [← ht4.qb]
  refine s9 (c := cA) (n := 1) h46 hq4 fun w52 q5 x5 h52 hq5 ht5 hx5 => ⟨_, _, _, rfl, fun b54 w55 e54 e55 => ?_⟩
  have l5 : (q4.S cA).take (1 : Int).toNat = [1] := by rw [t4S]; decide
  have t5S : q5.S = S5 := by rw [ht5.S, t4S]; rfl
  have t5O : q5.O = O5 := by rw [ht5.O, t4S, t4O]; rfl
  have t5K : q5.K.Perm K5 := by
    refine ht5.K.trans ?_
    rw [t4S]
    exact fold_perm _ t4K
  have h55 := h52.alloc' e54 e55
  rw [l5] at hx5 ⊢
  refine s16 (xs := [1]) (ys := [1]) h55 (IReads.vec hx5 (fun p hp => by simp [hp])) (one_reads (by simp)) rfl rfl (by decide) fun w57 h57 => ⟨_, rfl, fun _ => ?_, fun e => (by cases e)⟩
  have h57 : Own w0 Im w57 (q5.L ++ F) := (h57.tail rfl).sub (List.sublist_append_right _ _)
  refine ⟨_, _, _, ca h57 ma, _, _, _, cb h57 mb, ?_⟩
  rw [← ht5.qb]
  refine s11 (from' := cA) (to := cB) (n := 9) h57 hq5 (fun e => absurd e (by decide)) fun _ w66 q6 h66 hq6 ht6 => ⟨_, rfl, fun _ => ?_, fun e => absurd (by rw [t5S, t5O]; decide) e⟩
  have t6S : q6.S = M6.1 := by rw [ht6.S, t5S, t5O]; rfl
  refine ⟨_, _, _, cb h66 mb, ?_⟩
  rw [← ht6.qb]
  refine s9 (c := cB) (n := 1) h66 hq6 fun w72 q7 x7 h72 hq7 ht7 hx7 => ⟨_, _, _, rfl, fun b74 w75 e74 e75 => ?_⟩
  have l7 : (q6.S cB).take (1 : Int).toNat = [3] := by rw [t6S]; decide
  have t7K : q7.K.Perm K7 := by
    refine ht7.K.trans ?_
    rw [t6S]
    exact fold_perm _ (ht6.K.trans t5K)
  have h75 := h72.alloc' e74 e75
  rw [l7] at hx7 ⊢
  refine s16 (xs := [3]) (ys := [3]) h75 (IReads.vec hx7 (fun p hp => by simp [hp])) (one_reads (by simp)) rfl rfl (by decide) fun w77 h77 => ⟨_, rfl, fun _ => ?_, fun e => (by cases e)⟩
  have h77 : Own w0 Im w77 (q7.L ++ F) := (h77.tail rfl).sub (List.sublist_append_right _ _)
  rw [← ht7.qb]
  refine s12 h77 hq7.w ⟨_, rfl, ?_⟩
  have : q7.K.length = 0 := by rw [t7K.length_eq]; decide
  rw [this]
  exact hend h77
end
end Go.Proofs.Ytmffnjdndhkbhaa
