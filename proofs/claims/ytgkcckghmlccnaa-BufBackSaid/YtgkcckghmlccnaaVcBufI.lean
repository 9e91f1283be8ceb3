/- A part of the proof: lemmas. -/
import Derived.Test.YtgkcckghmlccnaaVcBufH
namespace Go.Proofs.Ytgkcckghmlccnaa
open Go Go.Vc
set_option maxRecDepth 100000
set_option linter.unusedVariables false
section
variable {w0 w : World} {Im : Mem} {Fr L : List (Nat × Obj)} {c : CacheG} {d : DiskG} {cnt : Nat} {room : Int} {R : Ending → World → Prop}

theorem flat_get (S : List PW) {i : Nat} (hi : i < S.length) : (S.flatMap PW.cells)[i * 2]? = some (.int .i64 S[i].n) ∧ (S.flatMap PW.cells)[i * 2 + 1]? = some (.slice S[i].a 512 S[i].c) := by
  induction S generalizing i with
  | nil => cases hi
  | cons p S ih =>
    cases i with
    | zero => exact ⟨rfl, rfl⟩
    | succ i =>
      have e1 : (i + 1) * 2 = i * 2 + 2 := by omega
      have e2 : (i + 1) * 2 + 1 = i * 2 + 1 + 2 := by omega
      rw [e2, e1]
      have hi' : i < S.length := by simpa using hi
      exact ih hi'

/-- (*Disk).Pending -/
theorem s20 (h : Own w0 Im w (d.L ++ Fr)) (hd : DiskOk Im d cnt) (hS : d.S.length ≤ 4398046511103)
    (hR : ∀ w' x, Own w0 Im w' (vecL 3 x ++ (d.L ++ Fr)) → VecOk 1 x d.S.length (i64s (d.S.map (·.n))) → R (.returned (.slice (vecA x) d.S.length (vecC x))) w') :
    Calls Try.prog 20 #[.pointer (some ⟨d.db, 0, none⟩)] w R := by
  apply vc20
  unfold Vc20
  refine ⟨fun e => (by cases e), fun _ => ⟨_, _, rfl, _, _, _, h.cell 0 rfl _,
    fun m a l cc v w' => ∃ x k, a = vecA x ∧ cc = vecC x ∧ l = k ∧ v = (k : Nat) ∧ m = d.S.length - k ∧ k ≤ d.S.length ∧ Own w0 Im w' (vecL 3 x ++ (d.L ++ Fr)) ∧ VecOk 1 x k (i64s ((d.S.take k).map (·.n))),
    ⟨_, none, 0, rfl, rfl, rfl, rfl, rfl, by omega, h, VecOk.nil⟩, ?_⟩⟩
  rintro m a l cc v w8 ⟨x, k, rfl, rfl, rfl, rfl, rfl, hk, h8, hx⟩
  refine ⟨fun hlt => ?_, fun hge => ?_⟩
  · have hk' : l < d.S.length := by omega
    cases hp : d.pend with
    | none => have hv := hd.vec; rw [hp] at hv; have : _ ≤ 0 := hv.2.1; omega
    | some y =>
      obtain ⟨g, cap, cur⟩ := y
      have hvec := hd.vec
      rw [hp] at hvec
      have hgm : (g, Obj.cells cur.toArray 66 (0, 0)) ∈ (vecL 3 x ++ (d.L ++ Fr)) := by
        have : (g, Obj.cells cur.toArray 66 (0, 0)) ∈ d.L := by unfold DiskG.L; rw [hp]; simp [vecL]
        simp [this]
      obtain ⟨f1, f2⟩ := flat_get d.S hk'
      have c1 := vec_cell hvec (h8.mem hgm) f1
      have c2 := vec_cell hvec (h8.mem hgm) f2
      have et : ((l : Nat) : Int).toNat = l := by omega
      refine ⟨_, _, rfl, by omega, hlt, d.S[l].n, d.S[l].a, 512, d.S[l].c, ?_, fun b13 w14 e13 e14 => ?_⟩
      · rw [et]
        intro j v hj
        rw [add_none, Nat.zero_add]
        match j with
        | 0 => simp at hj; subst hj; simpa using c1
        | 1 => simp at hj; subst hj; exact c2
        | j + 2 => simp at hj
      have h14 := h8.alloc' e13 e14
      refine ⟨h14.putOk 0 rfl (by simp), fun w15 e15 => ?_⟩
      have h15 : Own w0 Im w15 ((b13, .cells #[.int .i64 d.S[l].n, .slice d.S[l].a 512 d.S[l].c] 66 (0, 0)) :: (vecL 3 x ++ (d.L ++ Fr))) := by rw [e15]; exact h14.put [.int .i64 d.S[l].n, .slice d.S[l].a 512 d.S[l].c] 0 0 rfl 0
      refine ⟨_, h15.cell 0 rfl _, fun b17 w18 e17 e18 => ?_⟩
      have h18 := (h15.tail rfl).alloc' e17 e18
      obtain ⟨x', w19, hr, ho, hx'⟩ := own_append (t := 43) (ty := 43) (e := 3) (bytes := 8) (size := 1) (z := .int .i64 0) (a := ⟨b17, 0, none⟩) (m := 1) (c := 1) (news := [.int .i64 d.S[l].n]) Try.underlying43 Try.type3 rfl rfl rfl rfl (h18.perm (perm_l [_] (vecL 3 x) _)) hx rfl
        (h18.cellsAt 0 rfl (fun j v hj => by simpa using hj)) (by intro u hu; simp at hu; subst hu; rfl) (by omega) (by omega) (by simp only [maxLen]; omega)
      refine ⟨_, _, _, w19, hr, fun r21 e21 => ?_⟩
      rw [wrap_id (by omega) (by omega)] at e21
      refine ⟨_, by omega, x', l + 1, rfl, rfl, rfl, by omega, rfl, by omega, ?_, ?_⟩
      · exact (ho.perm (perm_l [_] (vecL 3 x') _).symm).tail rfl
      · have e : i64s ((d.S.take (l + 1)).map (·.n)) = i64s ((d.S.take l).map (·.n)) ++ [.int .i64 d.S[l].n] := by
          unfold i64s; rw [List.take_succ_eq_append_getElem hk', List.map_append, List.map_append]; rfl
        rw [e]; exact hx'
  · have e : l = d.S.length := by omega
    subst e
    rw [List.take_length] at hx
    exact hR w8 x h8 hx

theorem D_zero (hd : DiskOk Im d cnt) (hS : d.S = []) {b : Int} (hp : d.plb = List.replicate (cnt * 512) b) {n : Int} (h0 : 0 ≤ n) (h1 : n < cnt) : d.D n = List.replicate 512 b := by
  unfold DiskG.D
  rw [hS, show lastW [] n = none from rfl, hp]
  show (List.drop _ _).take 512 = _
  have : (n.toNat + 1) * 512 ≤ cnt * 512 := Nat.mul_le_mul_right _ (by omega)
  rw [List.drop_replicate, List.take_replicate]
  congr 1
  omega

/-- lives -/
theorem s7 (h : Own w0 Im w L) (hR : ∀ Im' w', Im.le Im' → Own w0 Im' w' L → R (.returned (.bool true)) w') : Calls Try.prog 7 #[] w R := by
  apply vc7
  unfold Vc7
  refine s6 h (by omega) (by omega) fun w3 d h3 hd hS hpl => ⟨_, _, rfl, ?_⟩
  refine s8 h3 hd (fun e => absurd (by omega) e) fun _ _ w7 c hns h7 hci hval hdty => ⟨_, _, rfl, fun e => absurd rfl e, fun _ => ⟨fun e => (by cases e), fun _ => ?_⟩⟩
  refine s12 h7 fun Im10 w10 a9 k9 hle10 h10 hb9 => ⟨_, _, _, rfl, ?_⟩
  have hci10 := hci.mono hle10
  refine s11 h10 hci10 hb9 (fun e => absurd (by omega) e) (fun _ _ hf _ w' _ => ?_) fun _ _ Im13 w13 c1 hle13 h13 hci13 hcb hin hval1 hdty1 => ⟨_, rfl, fun e => absurd rfl e, fun _ => ?_⟩
  · rw [hns] at hf; exact absurd (by simp) hf
  rw [← hcb]
  refine s9 h13 hci13 (fun e => absurd (by omega) e) (fun _ _ _ hf w' _ => absurd hin.1 hf) fun _ _ Im17 w17 c2 d2 a15 k15 h17 hs hin2 hb15 => ⟨_, _, _, _, rfl, ?_⟩
  have hcb2 := hs.cb
  rw [← hs.cb]
  have hv1 : val c1 d 1 = List.replicate 512 7 := by rw [hval1, if_pos rfl]
  rw [hv1] at hb15
  have hS2 : d2.S = [] := hs.S.trans hS
  refine s13 h17 hs.ci (by rw [hS2]; simp) (fun e => absurd ((hs.dty 1).2 ((hdty1 1).2 (.inl rfl))) e) fun _ Im21 w21 c3 d3 hle21 h21 hci21 hcb3 hdb3 hns3 hS3 _ _ => ⟨_, _, rfl, ⟨fun _ => ⟨fun _ => ?_, fun e => absurd rfl e⟩, fun e => absurd rfl e⟩⟩
  obtain ⟨b23, o24, ea, hcl⟩ := (hb15.mono hle21).cells h21
  have h9 := hcl 9 (.int .u8 7) rfl
  refine ⟨b23, o24, ea, by omega, by omega, 7, h9, ⟨fun _ => ⟨fun _ => ⟨fun _ => ?_, fun e => absurd rfl e⟩, fun e => (by cases e)⟩, fun e => absurd rfl e⟩⟩
  rw [hS2] at hS3
  rw [show d.db = d3.db from (hdb3.trans hs.db).symm]
  refine s20 (h21.perm (c_perm c3 d3.L L)) hci21.dk (by rw [hS3]; simp) fun w27 x h27 _ => ⟨_, _, _, rfl, ⟨fun _ => ?_, fun e => absurd (by rw [hS3]; rfl) e⟩⟩
  have h27' : Own w0 Im21 w27 (c3.L (d3.L ++ L)) := (h27.sub (List.sublist_append_right _ _)).perm (c_perm c3 d3.L L).symm
  rw [← hcb3]
  refine s16 h27' hci21.ok fun Im30 w30 a29 k29 hle30 h30 _ => ⟨_, _, _, rfl, ?_⟩
  have hlen : c3.ns.length = 1 := by
    have hnn := hci21.ok.nn
    have hall : ∀ m ∈ c3.ns, m = 1 := by
      rw [hns3]
      intro m hm
      rcases hin2.2 m hm with e | hm
      · exact e
      · rcases hin.2 m hm with e | hm
        · exact e
        · rw [hns] at hm; cases hm
    have h1 : (1 : Int) ∈ c3.ns := by rw [hns3]; exact hin2.1
    match hc : c3.ns with
    | [] => rw [hc] at h1; cases h1
    | [_] => rfl
    | a :: b :: t =>
      rw [hc] at hnn hall
      have ea := hall a (by simp)
      have eb := hall b (by simp)
      simp [ea, eb] at hnn
  rw [hlen]
  refine hR Im30 w30 (Mem.le_trans hle10 (Mem.le_trans hle13 (Mem.le_trans hs.le (Mem.le_trans hle21 hle30)))) (h30.sub ?_)
  unfold CacheG.L
  exact (((List.sublist_append_right _ _).trans ((List.sublist_append_right _ _).trans (List.sublist_append_right _ _))).cons _).cons _
end
end Go.Proofs.Ytgkcckghmlccnaa
