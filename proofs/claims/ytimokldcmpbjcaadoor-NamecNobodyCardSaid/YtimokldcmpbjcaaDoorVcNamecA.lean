/- A part of the proof: lemmas. -/
import Derived.Test.YtimokldcmpbjcaaDoorVcGenB
import Derived.Test.YtimokldcmpbjcaaDoorVcNamecP
import Derived.Test.YtimokldcmpbjcaaDoorVcVec
import Derived.Laws.BytesString
namespace Go.Proofs.YtimokldcmpbjcaaDoor
open Go Go.Vc
set_option maxRecDepth 100000
set_option linter.unusedVariables false

theorem wrap_id {n : Int} (h1 : -9223372036854775808 ≤ n) (h2 : n ≤ 9223372036854775807) : IntKind.wrap .i64 n = n := by rw [IntKind.wrap_i64]; omega
def ba (l : List UInt8) : ByteArray := ⟨l.toArray⟩
def sv (l : List UInt8) : Value := .string (ba l)
theorem ba_data (l : List UInt8) : (ba l).data.toList = l := by simp [ba]
theorem ba_of (s : ByteArray) : ba s.data.toList = s := by cases s; simp [ba]
theorem ba_size (l : List UInt8) : (ba l).size = l.length := by simp [ba, ByteArray.size]
theorem ba_inj {a b : List UInt8} (h : ba a = ba b) : a = b := by rw [← ba_data a, h, ba_data]
theorem ba_beq (a b : List UInt8) : ((ba a).toList == (ba b).toList) = decide (a = b) := by
  rw [Lib.toList_data, Lib.toList_data, ba_data, ba_data]
  by_cases h : a = b <;> simp [h]
theorem size_data (s : ByteArray) : s.size = s.data.toList.length := Array.length_toList.symm
theorem strAt_data (s : ByteArray) {i : Nat} (h : i < s.size) : ∃ c, s.data.toList[i]? = some c ∧ strAt s i = (c.toNat : Int) := by
  refine ⟨s[i], Lib.data_getElem? s i h, ?_⟩
  unfold strAt
  simp [h]

/-! ### pieces -/
theorem segs_snoc (p : List UInt8) (c : UInt8) {fin : List (List UInt8)} {cur : List UInt8} (h : segs p = fin ++ [cur]) : segs (p ++ [c]) = if c = 47 then fin ++ [cur, []] else fin ++ [cur ++ [c]] := by
  induction p generalizing fin cur with
  | nil =>
    have hf : fin = [] ∧ cur = [] := by
      cases fin with
      | nil => simp [segs] at h; exact ⟨rfl, h⟩
      | cons a t => simp [segs] at h
    obtain ⟨rfl, rfl⟩ := hf
    by_cases hc : c = 47 <;> simp [segs, hc]
  | cons d p ih =>
    obtain ⟨f2, c2, h2⟩ : ∃ f2 c2, segs p = f2 ++ [c2] := by
      have := segs_ne p
      exact ⟨(segs p).dropLast, (segs p).getLast this, (List.dropLast_concat_getLast this).symm⟩
    have ih2 := ih h2
    rw [List.cons_append]
    unfold segs at h ⊢
    by_cases hd : d = 47
    · rw [if_pos hd] at h ⊢
      rw [h2] at h
      have e := List.append_inj' (s₁ := [] :: f2) (t₁ := [c2]) (s₂ := fin) (t₂ := [cur]) (by simpa using h) rfl
      obtain ⟨rfl, e2⟩ := e
      simp at e2; subst e2
      rw [ih2]
      by_cases hc : c = 47 <;> simp [hc]
    · rw [if_neg hd] at h ⊢
      rw [ih2]
      rw [h2] at h
      cases f2 with
      | nil =>
        simp only [List.nil_append] at h ⊢
        have : fin = [] ∧ cur = d :: c2 := by
          cases fin with
          | nil => simp at h; exact ⟨rfl, h.symm⟩
          | cons a t => simp at h
        obtain ⟨rfl, rfl⟩ := this
        by_cases hc : c = 47 <;> simp [hc]
      | cons a t =>
        simp only [List.cons_append] at h ⊢
        have e := List.append_inj' (s₁ := (d :: a) :: t) (t₁ := [c2]) (s₂ := fin) (t₂ := [cur]) (by simpa using h) rfl
        obtain ⟨rfl, e2⟩ := e
        simp at e2; subst e2
        by_cases hc : c = 47 <;> simp [hc]
theorem segs_app (p q : List UInt8) : segs (p ++ 47 :: q) = segs p ++ segs q := by
  induction p with
  | nil => simp [segs]
  | cons d p ih =>
    rw [List.cons_append]
    conv => lhs; unfold segs
    conv => rhs; arg 1; unfold segs
    by_cases hd : d = 47
    · rw [if_pos hd, if_pos hd, ih]; rfl
    · rw [if_neg hd, if_neg hd, ih]
      cases hs : segs p with
      | nil => exact absurd hs (segs_ne p)
      | cons a t => rfl

/-- A path's names. -/
def names (l : List UInt8) : Option (List (List UInt8)) :=
  if l.length < 1 ∨ 64 < l.length ∨ l[0]? ≠ some 47 ∨ (0 : UInt8) ∈ l then none
  else if (∃ s ∈ segs l, 14 < s.length) ∨ 32 < ((segs l).filter fun s => decide (s ≠ [])).length then none
  else some ((segs l).filter fun s => decide (s ≠ []))

section
variable {w0 w : World} {Im : Mem} {L : List (Nat × Obj)} {R : Ending → World → Prop}

/-- parapetref19.Split -/
theorem s8 (h : Own w0 Im w L) (p : ByteArray)
    (hN : names p.data.toList = none → ∀ w', Own w0 Im w' L → R (.returned (.tuple #[.slice none 0 0, .int .i64 190])) w')
    (hS : ∀ out w' x, names p.data.toList = some out → Own w0 Im w' (vecL 9 x ++ L) → VecOk 1 x out.length (out.map sv) → R (.returned (.tuple #[.slice (vecA x) out.length (vecC x), .int .i64 0])) w') :
    Calls Tryd.prog 8 #[.string p] w R := by
  apply vc8
  unfold Vc8
  obtain ⟨l, rfl⟩ : ∃ l, p = ba l := ⟨p.data.toList, (ba_of p).symm⟩
  rw [ba_data] at hN hS
  rw [ba_size]
  refine ⟨fun e => hN (by unfold names; rw [if_pos (.inl (by omega))]) w h, fun h1 => ⟨fun e => hN (by unfold names; rw [if_pos (.inr (.inl (by omega)))]) w h, fun h2 => ⟨by omega, by omega, fun r2 e2 => ?_⟩⟩⟩
  obtain ⟨c0, hc0, hs0⟩ := strAt_data (ba l) (i := 0) (by rw [ba_size]; omega)
  rw [ba_data] at hc0
  have e2' : r2 = (c0.toNat : Int) := by rw [e2]; exact hs0
  have h47 : ((47 : UInt8).toNat : Int) = 47 := rfl
  refine ⟨fun hne => hN ?_ w h, fun he => ?_⟩
  · have hz : l[0]? ≠ some 47 := by
      rw [hc0]
      intro e
      injection e with e
      rw [e2', e] at hne
      exact hne rfl
    unfold names
    exact if_pos (.inr (.inr (.inl hz)))
  have hc47 : c0 = 47 := UInt8.toNat_inj.1 (by rw [e2'] at he; have : ((47 : UInt8).toNat) = 47 := rfl; omega)
  rw [hc47] at hc0
  have hnames : (0 : UInt8) ∉ l → names l = if (∃ s ∈ segs l, 14 < s.length) ∨ 32 < ((segs l).filter fun s => decide (s ≠ [])).length then none else some ((segs l).filter fun s => decide (s ≠ [])) := by
    intro h0
    unfold names
    rw [if_neg]
    rintro (h | h | h | h)
    · omega
    · omega
    · exact h hc0
    · exact h0 h
  refine ⟨fun a n c w' => ∃ x out, a = vecA x ∧ n = out.length ∧ c = vecC x ∧ Own w0 Im w' (vecL 9 x ++ L) ∧ VecOk 1 x out.length (out.map sv) ∧ (0 : UInt8) ∉ l ∧ out = ((segs l).filter fun s => decide (s ≠ [])) ∧ ∀ s ∈ segs l, s.length ≤ 14, ?_, ?_⟩
  · rintro a n c w' ⟨x, out, rfl, rfl, rfl, ho, hx, h0, hout, h14⟩
    have hn14 : ¬ ∃ s ∈ segs l, 14 < s.length := fun ⟨s, hs, h⟩ => by have := h14 s hs; omega
    refine ⟨fun e => hN ?_ w' (ho.sub (List.sublist_append_right _ _)), fun e => hS out w' x ?_ ho hx⟩
    · rw [hnames h0, ← hout, if_pos (.inr (by omega))]
    · rw [hnames h0, ← hout, if_neg]
      rintro (h | h)
      · exact hn14 h
      · omega
  refine ⟨fun m a n c cu v w' => ∃ k x out cur, m = l.length + 1 - k ∧ v = (k : Nat) ∧ k ≤ l.length + 1 ∧ a = vecA x ∧ n = out.length ∧ c = vecC x ∧ cu = ba cur ∧ Own w0 Im w' (vecL 9 x ++ L) ∧ VecOk 1 x out.length (out.map sv) ∧ out.length ≤ k ∧ cur.length ≤ k ∧ (0 : UInt8) ∉ l.take k ∧
      (k ≤ l.length → ∃ fin, segs (l.take k) = fin ++ [cur] ∧ out = fin.filter (fun s => decide (s ≠ [])) ∧ ∀ s ∈ fin, s.length ≤ 14) ∧ (k = l.length + 1 → out = (segs l).filter (fun s => decide (s ≠ [])) ∧ ∀ s ∈ segs l, s.length ≤ 14),
    ⟨_, 0, none, [], [], rfl, rfl, by omega, rfl, rfl, rfl, rfl, h, VecOk.nil, by simp, by simp, by simp, fun _ => ⟨[], by simp [segs], rfl, by simp⟩, fun e => by omega⟩, ?_⟩
  rintro m a n c cu v w9 ⟨k, x, out, cur, rfl, rfl, hk, rfl, rfl, rfl, rfl, h9, hx, hol, hcl, h0, hin, hend⟩
  refine ⟨fun hle => ?_, fun hgt => ?_⟩
  · have hk' : k ≤ l.length := by omega
    obtain ⟨fin, hseg, hout, h14⟩ := hin hk'
    refine ⟨fun b w' => w' = w9 ∧ (b = true ↔ (k = l.length ∨ l[k]? = some 47)), ?_, fun e => ⟨rfl, fun _ => .inl (by omega), fun _ => rfl⟩, fun e => ⟨by omega, by omega, fun r28 e28 => ⟨rfl, ?_⟩⟩⟩
    · rintro b w11 ⟨hw, hb⟩
      subst hw
      refine ⟨fun hbt => ?_, fun hbf => ?_⟩
      · have hcase := hb.1 hbt
        have hsegl : ∃ tl, segs l = fin ++ cur :: tl := by
          rcases hcase with e | e
          · rw [e, List.take_length] at hseg
            exact ⟨[], hseg⟩
          · have hkl : k < l.length := (List.getElem?_eq_some_iff.1 e).1
            have hke := (List.getElem?_eq_some_iff.1 e).2
            have el : l = l.take k ++ 47 :: l.drop (k + 1) := by
              conv => lhs; rw [← List.take_append_drop k l, List.drop_eq_getElem_cons hkl, hke]
            refine ⟨segs (l.drop (k + 1)), ?_⟩
            conv => lhs; rw [el]
            rw [segs_app, hseg]; simp
        have hcm : cur ∈ segs l := by obtain ⟨tl, e⟩ := hsegl; rw [e]; simp
        rw [ba_size]
        refine ⟨fun e14 => hN ?_ w11 (h9.sub (List.sublist_append_right _ _)), fun e14 => ?_⟩
        · by_cases hz : (0 : UInt8) ∈ l
          · unfold names; rw [if_pos (.inr (.inr (.inr hz)))]
          · rw [hnames hz, if_pos (.inl ⟨cur, hcm, by omega⟩)]
        have hzk : (0 : UInt8) ∉ l.take (k + 1) := by
          rcases hcase with e | e
          · rw [List.take_of_length_le (by omega)]
            rw [e, List.take_length] at h0; exact h0
          · have hkl : k < l.length := (List.getElem?_eq_some_iff.1 e).1
            have hke := (List.getElem?_eq_some_iff.1 e).2
            rw [List.take_succ_eq_append_getElem hkl, hke, List.mem_append]
            rintro (h | h)
            · exact h0 h
            · simp at h
        have hnext : ∀ out', out' = (fin ++ [cur]).filter (fun s => decide (s ≠ [])) →
            (k + 1 ≤ l.length → ∃ fin, segs (l.take (k + 1)) = fin ++ [[]] ∧ out' = fin.filter (fun s => decide (s ≠ [])) ∧ ∀ s ∈ fin, s.length ≤ 14) ∧ (k + 1 = l.length + 1 → out' = (segs l).filter (fun s => decide (s ≠ [])) ∧ ∀ s ∈ segs l, s.length ≤ 14) := by
          intro out' ho'
          have h14' : ∀ s ∈ fin ++ [cur], s.length ≤ 14 := fun s hs => by
            rcases List.mem_append.1 hs with hs | hs
            · exact h14 s hs
            · simp at hs; subst hs; omega
          refine ⟨fun hk1 => ⟨fin ++ [cur], ?_, ho', h14'⟩, fun hk1 => ?_⟩
          · have hkl : k < l.length := by omega
            have hke : l[k] = 47 := by
              rcases hcase with e | e
              · omega
              · exact (List.getElem?_eq_some_iff.1 e).2
            rw [List.take_succ_eq_append_getElem hkl, hke, segs_snoc _ _ hseg, if_pos rfl]; simp
          · have e : k = l.length := by omega
            rw [e, List.take_length] at hseg
            rw [hseg]
            exact ⟨ho', h14'⟩
        have hbq : ((ba cur).toList == ByteArray.toList ⟨#[]⟩) = decide (cur = []) := ba_beq cur []
        rw [hbq]
        refine ⟨fun hne b12 w13 e12 e13 => ?_, fun he r18 e18 => ?_⟩
        · have hne' : cur ≠ [] := by simpa using hne
          have h13 := h9.alloc' e12 e13
          obtain ⟨x', w14, hr14, ho14, hx14⟩ := own_append (t := 22) (ty := 22) (e := 9) (bytes := 16) (size := 1) (z := .string ByteArray.empty) (a := ⟨b12, 0, none⟩) (m := 1) (c := 1) (news := [sv cur]) Tryd.underlying22 Tryd.type9 rfl rfl rfl rfl (h13.perm (perm_l [_] (vecL 9 x) _)) hx rfl
            (h13.cellsAt 0 rfl (fun j v hj => by simpa [sv] using hj)) (by intro u hu; simp at hu; subst hu; rfl) (by omega) (by omega) (by simp only [maxLen]; omega)
          refine ⟨_, _, _, w14, hr14, fun r16 e16 => ?_⟩
          rw [wrap_id (by omega) (by omega)] at e16
          obtain ⟨n1, n2⟩ := hnext (out ++ [cur]) (by rw [List.filter_append, ← hout]; simp [hne'])
          exact ⟨_, by omega, k + 1, x', out ++ [cur], [], rfl, by omega, by omega, rfl, by simp, rfl, rfl, (ho14.perm (perm_l [_] (vecL 9 x') _).symm).tail rfl, by simpa using hx14, by simp; omega, by simp, hzk, n1, n2⟩
        · have he' : cur = [] := by simpa using he
          rw [wrap_id (by omega) (by omega)] at e18
          obtain ⟨n1, n2⟩ := hnext out (by rw [List.filter_append, ← hout, he']; simp)
          exact ⟨_, by omega, k + 1, x, out, [], rfl, by omega, by omega, rfl, rfl, rfl, rfl, h9, hx, by omega, by simp, hzk, n1, n2⟩
      · have hncase : ¬ (k = l.length ∨ l[k]? = some 47) := fun e => by rw [hb.2 e] at hbf; cases hbf
        have hkl : k < l.length := by
          rcases Nat.lt_or_ge k l.length with h | h
          · exact h
          · exact absurd (.inl (by omega)) hncase
        have ek : ((k : Nat) : Int).toNat = k := by omega
        obtain ⟨ck, hck, hsk⟩ := strAt_data (ba l) (i := k) (by rw [ba_size]; omega)
        rw [ba_data] at hck
        refine ⟨by omega, by omega, fun r20 e20 => ?_⟩
        rw [ek, hsk] at e20
        have hlk : l[k] = ck := (List.getElem?_eq_some_iff.1 hck).2
        refine ⟨fun ez => hN ?_ w11 (h9.sub (List.sublist_append_right _ _)), fun ez => ⟨by omega, by omega, fun r21 e21 b22 w23 e22 e23 => ?_⟩⟩
        · have hc0' : ck = 0 := UInt8.toNat_inj.1 (by have : ((0 : UInt8).toNat) = 0 := rfl; omega)
          have hz : (0 : UInt8) ∈ l := by rw [← hc0', ← hlk]; exact List.getElem_mem hkl
          unfold names
          exact if_pos (.inr (.inr (.inr hz)))
        · rw [ek, hsk] at e21
          have h23 := h9.alloc' e22 e23
          have hcell := h23.cellsAt 0 rfl (o := 0) (vs := [.int .u8 r21]) (fun j v hj => by simpa using hj)
          have hld := run_loadCells_list (P := Tryd.prog) w23 ⟨b22, 0, none⟩ [.int .u8 r21] hcell
          have hcv := run_convert_bytes_string (P := Tryd.prog) w23 71 9 5 (some ⟨b22, 0, none⟩) 1 1 Tryd.underlying71 Tryd.underlying5 Tryd.underlying9
          have hbs := run_bytesToString (P := Tryd.prog) w23 ⟨b22, 0, none⟩ 1 1 [r21] hld
          have ex : ([r21].foldl (fun r n => r.push (UInt8.ofNat n.toNat)) ByteArray.empty) = ba [ck] := by
            subst e21
            show ByteArray.push ByteArray.empty (UInt8.ofNat ((ck.toNat : Int)).toNat) = ba [ck]
            rw [Int.toNat_natCast, UInt8.ofNat_toNat]
            rfl
          rw [ex] at hbs
          refine ⟨_, w23, hcv.trans hbs, by rw [ba_size, ba_size]; simp; omega, fun r26 e26 => ?_⟩
          rw [wrap_id (by omega) (by omega)] at e26
          have hne47 : ck ≠ 47 := fun e => hncase (.inr (by rw [hck, e]))
          refine ⟨_, by omega, k + 1, x, out, cur ++ [ck], rfl, by omega, by omega, rfl, rfl, rfl, ?_, h23.tail rfl, hx, by omega, by simp; omega, ?_, fun _ => ⟨fin, ?_, hout, h14⟩, fun e => by omega⟩
          · simp [ba, ByteArray.ext_iff]
          · rw [List.take_succ_eq_append_getElem hkl, List.mem_append, hlk]
            rintro (h | h)
            · exact h0 h
            · simp at h
              rw [← h] at e20
              exact ez e20
          · rw [List.take_succ_eq_append_getElem hkl, hlk, segs_snoc _ _ hseg, if_neg hne47]
    · have hkl : k < l.length := by omega
      have ek : ((k : Nat) : Int).toNat = k := by omega
      obtain ⟨ck, hck, hsk⟩ := strAt_data (ba l) (i := k) (by rw [ba_size]; omega)
      rw [ba_data] at hck
      rw [ek, hsk] at e28
      rw [decide_eq_true_eq, hck, e28]
      constructor
      · intro e
        refine .inr (congrArg some (UInt8.toNat_inj.1 ?_))
        have : ((47 : UInt8).toNat) = 47 := rfl
        omega
      · rintro (e | e)
        · omega
        · injection e with e; rw [e]; rfl
  · have e : k = l.length + 1 := by omega
    obtain ⟨h1', h2'⟩ := hend e
    rw [e, List.take_of_length_le (by omega)] at h0
    exact ⟨x, out, rfl, rfl, rfl, h9, hx, h0, h1', h2'⟩
end
end Go.Proofs.YtimokldcmpbjcaaDoor
