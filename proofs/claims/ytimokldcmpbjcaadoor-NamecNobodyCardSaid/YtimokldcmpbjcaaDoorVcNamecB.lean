/- A part of the proof: lemmas. -/
import Derived.Test.YtimokldcmpbjcaaDoorVcNamecA
import Derived.Test.YtimokldcmpbjcaaDoorVcNamecSplit
namespace Go.Proofs.YtimokldcmpbjcaaDoor
open Go Go.Vc
set_option maxRecDepth 100000
set_option linter.unusedVariables false
section
variable {w0 w : World} {Im : Mem} {L : List (Nat × Obj)} {R : Ending → World → Prop}

/-- The library's variable internal/bytealg.MaxLen holds some number. -/
def MaxLen (Im : Mem) : Prop := ∃ cs T z m, Im 0 = some (.cells cs T z) ∧ cs[0]? = some (.int .i64 m)
theorem MaxLen.mono {Im Im' : Mem} (h : Im.le Im') (hm : MaxLen Im) : MaxLen Im' := let ⟨cs, T, z, m, h1, h2⟩ := hm; ⟨cs, T, z, m, h _ _ h1, h2⟩

/-- strings.IndexByte -/
theorem s32 (h : Own w0 Im w L) (s : ByteArray) (c : Int) (hR : R (.returned (.int .i64 (Lib.indexByte s.data.toList c.toNat.toUInt8))) w) : Calls Tryd.prog 32 #[.string s, .int .u8 c] w R :=
  (Any.strings_IndexByte Tryd.laysIxb s c w).mono fun e w' ⟨he, hw⟩ => by subst he hw; exact hR

/-- strings.Split -/
theorem s33 (h : Own w0 Im w L) (hm : MaxLen Im) (s : ByteArray) (hs : s.size < 4294967281) (hR : ∀ w' b, Own w0 Im w' ((b, .cells ((segs s.data.toList).map sv).toArray 9 (0, 0)) :: L) → R (.returned (.slice (some ⟨b, 0, none⟩) (segs s.data.toList).length (segs s.data.toList).length)) w') :
    Calls Tryd.prog 33 #[.string s, .string ⟨#[47]⟩] w R := by
  obtain ⟨cs, T, z, m, h1, h2⟩ := hm
  refine (Any.strings_Split Tryd.laysSplit (by kernel_rfl) s ⟨#[47]⟩ m w hs ?_ (by decide)).mono fun e w' ⟨he, hw⟩ => ?_
  · show w.cell? ⟨0, 0, none⟩ = _
    rw [cell_of (h.im _ _ h1)]; exact h2
  · have hd := Lib.splitB_data ⟨#[47]⟩ 0 (Lib.countB s ⟨#[47]⟩) s
    have hsp : Lib.splitK [47] 0 (Lib.countB s ⟨#[47]⟩) s.data.toList = segs s.data.toList := split_segs s.data.toList
    have hd2 : (Lib.splitB ⟨#[47]⟩ 0 (Lib.countB s ⟨#[47]⟩) s).map (·.data.toList) = segs s.data.toList := hd.trans hsp
    have hmap : (Lib.splitB ⟨#[47]⟩ 0 (Lib.countB s ⟨#[47]⟩) s).map Value.string = (segs s.data.toList).map sv := by
      rw [← hd2, List.map_map]
      refine List.map_congr_left fun x _ => ?_
      show Value.string x = Value.string (ba x.data.toList)
      rw [ba_of]
    have hlen : Lib.countB s ⟨#[47]⟩ + 1 = (segs s.data.toList).length := by
      rw [← hd2, List.length_map]
      exact (Lib.splitB_all ⟨#[47]⟩ (by decide) 0 _ s rfl).symm
    subst he hw
    rw [hmap, hlen]
    have ho := h.alloc (.cells ((segs s.data.toList).map sv).toArray 9)
    exact hR _ _ ho

theorem ixb_iff (c : UInt8) : ∀ l : List UInt8, 0 ≤ Lib.indexByte l c ↔ c ∈ l
  | [] => by simp [Lib.indexByte]
  | b :: l => by
    have ih := ixb_iff c l
    have hge := Lib.indexByte_ge l c
    unfold Lib.indexByte
    by_cases hb : b = c
    · subst hb; simp
    · have hb' : (b == c) = false := by simpa using hb
      have hcb : c ≠ b := fun e => hb e.symm
      rw [hb']
      simp only [Bool.false_eq_true, if_false, List.mem_cons, hcb, false_or, ← ih]
      split
      · rename_i h
        have := beq_iff_eq.1 h
        omega
      · rename_i h
        have : ¬ Lib.indexByte l c = -1 := fun e => h (beq_iff_eq.2 e)
        omega

/-- namec.Split -/
theorem s7 (h : Own w0 Im w L) (hm : MaxLen Im) (p : ByteArray)
    (hN : names p.data.toList = none → ∀ w', Own w0 Im w' L → R (.returned (.tuple #[.slice none 0 0, .int .i64 190])) w')
    (hS : ∀ out w' x, names p.data.toList = some out → Own w0 Im w' (vecL 9 x ++ L) → VecOk 1 x out.length (out.map sv) → R (.returned (.tuple #[.slice (vecA x) out.length (vecC x), .int .i64 0])) w') :
    Calls Tryd.prog 7 #[.string p] w R := by
  apply vc7
  unfold Vc7
  obtain ⟨l, rfl⟩ : ∃ l, p = ba l := ⟨p.data.toList, (ba_of p).symm⟩
  rw [ba_data] at hN hS
  rw [ba_size]
  refine ⟨fun e => hN (by unfold names; rw [if_pos (.inl (by omega))]) w h, fun h1 => ⟨fun e => hN (by unfold names; rw [if_pos (.inr (.inl (by omega)))]) w h, fun h2 => ⟨by omega, by omega, fun r2 e2 => ?_⟩⟩⟩
  obtain ⟨c0, hc0, hs0⟩ := strAt_data (ba l) (i := 0) (by rw [ba_size]; omega)
  rw [ba_data] at hc0
  have e2' : r2 = (c0.toNat : Int) := by rw [e2]; exact hs0
  refine ⟨fun hne => hN ?_ w h, fun he => ?_⟩
  · have hz : l[0]? ≠ some 47 := by
      rw [hc0]
      intro e
      injection e with e
      rw [e2', e] at hne
      exact hne rfl
    unfold names
    exact if_pos (.inr (.inr (.inl hz)))
  have hc47 : c0 = 47 := UInt8.toNat_inj.1 (by rw [e2'] at he; have : ((47 : UInt8).toNat) = 47 := rfl; omega)
  rw [hc47] at hc0
  have hnames : (0 : UInt8) ∉ l → names l = if (∃ s ∈ segs l, 14 < s.length) ∨ 32 < ((segs l).filter fun s => decide (s ≠ [])).length then none else some ((segs l).filter fun s => decide (s ≠ [])) := by
    intro h0
    unfold names
    rw [if_neg]
    rintro (h | h | h | h)
    · omega
    · omega
    · exact h hc0
    · exact h0 h
  refine s32 h (ba l) 0 ⟨_, rfl, fun e => hN ?_ w h, fun e => ?_⟩
  · rw [ba_data] at e
    have hz : (0 : UInt8) ∈ l := (ixb_iff 0 l).1 e
    unfold names
    exact if_pos (.inr (.inr (.inr hz)))
  rw [ba_data] at e
  have h0 : (0 : UInt8) ∉ l := fun hz => e ((ixb_iff 0 l).2 hz)
  refine ⟨fun a n c w' => ∃ x out, a = vecA x ∧ n = out.length ∧ c = vecC x ∧ Own w0 Im w' (vecL 9 x ++ L) ∧ VecOk 1 x out.length (out.map sv) ∧ out = ((segs l).filter fun s => decide (s ≠ [])) ∧ ∀ s ∈ segs l, s.length ≤ 14, ?_, ?_⟩
  · rintro a n c w' ⟨x, out, rfl, rfl, rfl, ho, hx, hout, h14⟩
    have hn14 : ¬ ∃ s ∈ segs l, 14 < s.length := fun ⟨s, hs, h⟩ => by have := h14 s hs; omega
    refine ⟨fun e => hN ?_ w' (ho.sub (List.sublist_append_right _ _)), fun e => hS out w' x ?_ ho hx⟩
    · rw [hnames h0, ← hout, if_pos (.inr (by omega))]
    · rw [hnames h0, ← hout, if_neg]
      rintro (h | h)
      · exact hn14 h
      · omega
  refine s33 h hm (ba l) (by rw [ba_size]; omega) fun w9 b8 h9 => ⟨_, _, _, rfl, ?_⟩
  rw [ba_data] at h9 ⊢
  have hsl : (segs l).length ≤ 65 := by
    have : ∀ l : List UInt8, (segs l).length ≤ l.length + 1 := by
      intro l
      induction l with
      | nil => simp [segs]
      | cons c l ih =>
        unfold segs
        split
        · simp; exact ih
        · split
          · simp
          · rename_i hs
            rw [hs] at ih
            simp at ih ⊢; omega
    have := this l
    omega
  refine ⟨fun m a n c v w' => ∃ k x out, m = (segs l).length - k ∧ v = (k : Nat) ∧ k ≤ (segs l).length ∧ a = vecA x ∧ n = out.length ∧ c = vecC x ∧ Own w0 Im w' (vecL 9 x ++ ((b8, .cells ((segs l).map sv).toArray 9 (0, 0)) :: L)) ∧ VecOk 1 x out.length (out.map sv) ∧ out.length ≤ k ∧
      out = ((segs l).take k).filter (fun s => decide (s ≠ [])) ∧ ∀ s ∈ (segs l).take k, s.length ≤ 14,
    ⟨_, 0, none, [], rfl, rfl, by omega, rfl, rfl, rfl, h9, VecOk.nil, by simp, by simp, by simp⟩, ?_⟩
  rintro m a n c v w14 ⟨k, x, out, rfl, rfl, hk, rfl, rfl, rfl, h14, hx, hol, hout, hall⟩
  refine ⟨fun hlt => ?_, fun hge => ?_⟩
  · have hk' : k < (segs l).length := by omega
    have ek : ((k : Nat) : Int).toNat = k := by omega
    have hp := h14.perm (perm_l (vecL 9 x) [(b8, .cells ((segs l).map sv).toArray 9 (0, 0))] L)
    have hcell : w14.cell? ⟨b8, k, none⟩ = some (.string (ba (segs l)[k])) := by
      rw [hp.cell 0 rfl k]; simp [hk', sv]
    refine ⟨_, _, rfl, by omega, hlt, _, by rw [ek, Nat.zero_add]; exact hcell, ?_⟩
    have hmem : (segs l)[k] ∈ segs l := List.getElem_mem hk'
    rw [ba_size]
    refine ⟨fun e14 => hN ?_ w14 (h14.sub ((List.sublist_cons_self _ _).trans (List.sublist_append_right _ _))), fun e14 => ?_⟩
    · rw [hnames h0, if_pos (.inl ⟨_, hmem, by omega⟩)]
    have hbq : ((ba (segs l)[k]).toList == ByteArray.toList ⟨#[]⟩) = decide ((segs l)[k] = []) := ba_beq _ []
    rw [hbq]
    have hall' : ∀ s ∈ (segs l).take (k + 1), s.length ≤ 14 := fun s hs => by
      rw [List.take_succ_eq_append_getElem hk', List.mem_append] at hs
      rcases hs with hs | hs
      · exact hall s hs
      · simp at hs; subst hs; omega
    refine ⟨fun hne b18 w19 e18 e19 => ?_, fun he r24 e24 => ?_⟩
    · have hne' : (segs l)[k] ≠ [] := by simpa using hne
      have h19 := h14.alloc' e18 e19
      obtain ⟨x', w20, hr20, ho20, hx20⟩ := own_append (t := 22) (ty := 22) (e := 9) (bytes := 16) (size := 1) (z := .string ByteArray.empty) (a := ⟨b18, 0, none⟩) (m := 1) (c := 1) (news := [sv (segs l)[k]]) Tryd.underlying22 Tryd.type9 rfl rfl rfl rfl (h19.perm (perm_l [_] (vecL 9 x) _)) hx rfl
        (h19.cellsAt 0 rfl (fun j v hj => by simpa [sv] using hj)) (by intro u hu; simp at hu; subst hu; rfl) (by omega) (by omega) (by simp only [maxLen]; omega)
      refine ⟨_, _, _, w20, hr20, fun r22 e22 => ?_⟩
      rw [wrap_id (by omega) (by omega)] at e22
      refine ⟨_, by omega, k + 1, x', out ++ [(segs l)[k]], rfl, by omega, by omega, rfl, by simp, rfl, (ho20.perm (perm_l [_] (vecL 9 x') _).symm).tail rfl, by simpa using hx20, by simp; omega, ?_, hall'⟩
      rw [List.take_succ_eq_append_getElem hk', List.filter_append, ← hout]; simp [hne']
    · have he' : (segs l)[k] = [] := by simpa using he
      rw [wrap_id (by omega) (by omega)] at e24
      refine ⟨_, by omega, k + 1, x, out, rfl, by omega, by omega, rfl, rfl, rfl, h14, hx, by omega, ?_, hall'⟩
      rw [List.take_succ_eq_append_getElem hk', List.filter_append, ← hout, he']; simp
  · have e : k = (segs l).length := by omega
    subst e
    rw [List.take_length] at hout hall
    exact ⟨x, out, rfl, rfl, rfl, h14.sub ((List.Sublist.refl _).append (List.sublist_cons_self _ _)), hx, hout, hall⟩
end
end Go.Proofs.YtimokldcmpbjcaaDoor
