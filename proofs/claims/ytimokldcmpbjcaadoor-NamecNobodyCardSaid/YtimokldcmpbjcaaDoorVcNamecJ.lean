/- A part of the proof: lemmas. -/
import Derived.Test.YtimokldcmpbjcaaDoorVcNamecI
namespace Go.Proofs.YtimokldcmpbjcaaDoor
open Go Go.Vc
set_option maxRecDepth 100000
set_option linter.unusedVariables false

def kpC (x : Kp) : List Value := [.int .i64 x.key.1, .string x.key.2, .int .i64 x.ino, .int .i64 x.id]
theorem kpC_len (a : Kp) : (kpC a).length = 4 := rfl
theorem kpC_one (a : Kp) : ∀ u ∈ kpC a, u.oneCell' = true := by intro u hu; simp [kpC] at hu; rcases hu with rfl | rfl | rfl | rfl <;> rfl
def intC (a : Int) : List Value := [.int .i64 a]
theorem intC_len (a : Int) : (intC a).length = 1 := rfl
theorem intC_one (a : Int) : ∀ u ∈ intC a, u.oneCell' = true := by intro u hu; simp [intC] at hu; subst hu; rfl
/-- The reference's cache. -/
structure RefG where
  rb : Nat
  room : Int
  lv : VecB
  E : List Kp
  last : Int
  gv : VecB
  gone : List Int
def RefG.cells (r : RefG) : Array Value := #[.int .i64 r.room, .slice (vecA r.lv) r.E.length (vecC r.lv), .int .i64 r.last, .slice (vecA r.gv) r.gone.length (vecC r.gv)]
def RefG.L (r : RefG) : List (Nat × Obj) := (r.rb, .cells r.cells 40 (0, 0)) :: (vecL 54 r.lv ++ vecL 3 r.gv)
structure RefOk (r : RefG) : Prop where
  lv : VecE kpC 4 r.lv r.E
  gv : VecE intC 1 r.gv r.gone
  nd : (r.E.map (·.key)).Nodup
  len : r.E.length ≤ 4096
  gl : r.gone.length < 4398046507000
/-- These are kept now, these were let go. -/
structure RTurned (r r' : RefG) (E : List Kp) (last : Int) (gone : List Int) : Prop where
  rb : r'.rb = r.rb
  room : r'.room = r.room
  E : r'.E = E
  last : r'.last = last
  gone : r'.gone = r.gone ++ gone
theorem RTurned.refl (r : RefG) : RTurned r r r.E r.last [] := ⟨rfl, rfl, rfl, rfl, by simp⟩
theorem RTurned.trans {a b c : RefG} {E E' : List Kp} {l l' : Int} {g g' : List Int} (h : RTurned a b E l g) (k : RTurned b c E' l' g') : RTurned a c E' l' (g ++ g') :=
  ⟨k.rb.trans h.rb, k.room.trans h.room, k.E, k.last, by rw [k.gone, h.gone]; simp⟩

def atK (E : List Kp) (k : Name) : Option Nat := E.findIdx? fun x => decide (x.key = k)
theorem atK_none {E : List Kp} {k : Name} (h : atK E k = none) : findK E k = none := by
  unfold atK at h
  rw [List.findIdx?_eq_none_iff] at h
  exact findK_none.2 fun hm => by
    obtain ⟨x, hx, e⟩ := List.mem_map.1 hm
    have := h x hx
    simp [e] at this
theorem atK_some {E : List Kp} {k : Name} {i : Nat} (h : atK E k = some i) : ∃ hi : i < E.length, E[i].key = k := by
  unfold atK at h
  rw [List.findIdx?_eq_some_iff_getElem] at h
  obtain ⟨hi, h1, _⟩ := h
  exact ⟨hi, by simpa using h1⟩
theorem lessK_at {E : List Kp} (hn : (E.map (·.key)).Nodup) {i : Nat} (hi : i < E.length) : lessK E E[i].key = E.take i ++ E.drop (i + 1) := by
  have e : E = E.take i ++ E[i] :: E.drop (i + 1) := by simp
  have h2 := hn
  rw [e] at h2
  have := lessK_mid h2
  conv => lhs; rw [show lessK E E[i].key = lessK (E.take i ++ E[i] :: E.drop (i + 1)) E[i].key by rw [← e]]
  exact this

section
variable {w0 w : World} {Im : Mem} {Fr L : List (Nat × Obj)} {r : RefG} {R : Ending → World → Prop}

/-- (*Cache).find -/
theorem s35 (h : Own w0 Im w (r.L ++ Fr)) (hr : RefOk r) (k : Name)
    (hno : atK r.E k = none → ∀ w', Own w0 Im w' (r.L ++ Fr) → R (.returned (.int .i64 (-1))) w')
    (hyes : ∀ w' i, atK r.E k = some i → Own w0 Im w' (r.L ++ Fr) → R (.returned (.int .i64 i)) w') :
    Calls Tryd.prog 35 #[.pointer (some ⟨r.rb, 0, none⟩), .agg #[.int .i64 k.1, .string k.2]] w R := by
  apply vc35
  unfold Vc35
  intro b4 w5 e4 e5
  have h5 := h.alloc' e4 e5
  have hlen := hr.len
  refine ⟨fun m v w' => ∃ j : Nat, m = r.E.length - j ∧ v = j ∧ j ≤ r.E.length ∧ Own w0 Im w' ((b4, .cells (nameC k).toArray 42 (0, 0)) :: (r.L ++ Fr)) ∧ ∀ i (hi : i < r.E.length), i < j → r.E[i].key ≠ k, ⟨_, 0, rfl, rfl, by omega, h5, fun i hi h0 => by omega⟩, ?_⟩
  rintro m v w8 ⟨j, rfl, rfl, hj, h8, hall⟩
  refine ⟨_, _, rfl, _, _, _, h8.cell 1 rfl _, fun hlt => ?_, fun hge => ?_⟩
  · have hj' : j < r.E.length := by omega
    have ej : ((j : Nat) : Int).toNat = j := by omega
    have h8 := h8.drew
    obtain ⟨g, eg, hcell⟩ := vecE_at (e := 54) kpC_len h8 (fun p hp => by simp [RefG.L, hp]) hr.lv hj'
    refine ⟨_, _, _, h8.cell 1 rfl _, _, _, eg, by omega, hlt, r.E[j].key.1, r.E[j].key.2, ?_, _, _, h8.cellsAt 0 rfl (vs := nameC k) (fun j v hj => by rw [Nat.zero_add, List.getElem?_toArray]; exact hj), decide (r.E[j].key = k), fun w' => name_guard r.E[j].key k w', fun w' => name_eq r.E[j].key k w', fun e => ?_, fun e r20 e20 => ?_⟩
    · rw [ej, Nat.zero_add]
      intro i v hi
      match i with
      | 0 => exact hcell 0 v (by simpa [kpC] using hi)
      | 1 => exact hcell 1 v (by simpa [kpC] using hi)
      | i + 2 => simp at hi
    · refine hyes _ j ?_ (h8.tail rfl)
      unfold atK
      rw [List.findIdx?_eq_some_iff_getElem]
      exact ⟨hj', by simpa using e, fun i hi => by simpa using hall i (by omega) hi⟩
    · rw [wrap_id (by omega) (by omega)] at e20
      refine ⟨_, by omega, j + 1, rfl, by omega, by omega, h8, fun i hi h2 => ?_⟩
      by_cases e3 : i = j
      · subst e3; simpa using e
      · exact hall i hi (by omega)
  · have e : j = r.E.length := by omega
    refine hno ?_ w8 (h8.tail rfl)
    unfold atK
    rw [List.findIdx?_eq_none_iff]
    intro x hx
    obtain ⟨i, hi, rfl⟩ := List.mem_iff_getElem.1 hx
    simpa using hall i hi (by omega)

/-- (*Cache).drop -/
theorem s36 (h : Own w0 Im w (r.L ++ Fr)) (hr : RefOk r) (hb : r.gone.length < 4398046506999) {i : Nat} (hi : i < r.E.length)
    (hR : ∀ w' r', Own w0 Im w' (r'.L ++ Fr) → RefOk r' → RTurned r r' (r.E.take i ++ r.E.drop (i + 1)) r.last [r.E[i].id] → R (.returned (.tuple #[])) w') :
    Calls Tryd.prog 36 #[.pointer (some ⟨r.rb, 0, none⟩), .int .i64 i] w R := by
  apply vc36
  unfold Vc36
  have hlen := hr.len
  have h := h.drew
  have ei : ((i : Nat) : Int).toNat = i := by omega
  obtain ⟨g, eg, hcell⟩ := vecE_cell (e := 54) kpC_len h (fun p hp => by simp [RefG.L, hp]) hr.lv hi
  refine ⟨_, _, rfl, _, _, _, h.cell 0 rfl _, _, _, _, h.cell 0 rfl _, _, _, eg, by omega, by omega, r.E[i].id, ?_, fun b10 w11 e10 e11 => ?_⟩
  · rw [ei, Nat.zero_add]; exact hcell 3 (by omega)
  have h11 := h.alloc' e10 e11
  refine ⟨h11.cell 1 rfl _, h11.cell 1 rfl _, ?_⟩
  have pg : ∀ (A B C F : List (Nat × Obj)), ((A ++ (B ++ C)) ++ F).Perm (C ++ (A ++ (B ++ F))) := fun A B C F => by
    have h1 : ((A ++ (B ++ C)) ++ F) = A ++ (B ++ (C ++ F)) := by simp [List.append_assoc]
    have h2 : (C ++ (A ++ (B ++ F))) = C ++ ((A ++ B) ++ F) := by simp [List.append_assoc]
    rw [h1, h2, ← List.append_assoc A B]
    exact perm_l (A ++ B) C F
  obtain ⟨gv', w12, hr12, ho12, hg12⟩ := vecE_append (n := 1) (P := Tryd.prog) (t := 38) (ty := 38) (e := 3) (bytes := 8) (z := .int .i64 0) (f := intC) (a := some ⟨b10, 0, none⟩) (c := 1) (ys := [r.E[i].id]) Tryd.underlying38 Tryd.type3 rfl rfl rfl rfl intC_len intC_one
    (h11.perm (pg [_, _] (vecL 54 r.lv) (vecL 3 r.gv) Fr)) hr.gv (fun _ => ⟨_, rfl, h11.cellsAt 0 rfl (fun j v hj => by rw [Nat.zero_add, List.getElem?_toArray]; simpa [intC] using hj)⟩) (by simp; omega) (by simp [maxLen]; omega)
  refine ⟨_, _, _, w12, hr12, ?_⟩
  have h12 : Own w0 Im w12 ((r.rb, .cells r.cells 40 (0, 0)) :: (vecL 54 r.lv ++ vecL 3 gv') ++ Fr) := (ho12.perm (pg [_, _] (vecL 54 r.lv) (vecL 3 gv') Fr).symm).tail rfl
  refine ⟨h12.cell 0 rfl _, by rw [h12.cell 0 rfl _]; rfl, h12.frozen 0 rfl _, fun w14 e14 r15 e15 => ?_⟩
  have h14 := h12.set 0 rfl (0 + 3) (.slice (vecA gv') (r.gone.length + [r.E[i].id].length) (vecC gv'))
  rw [← e14] at h14
  have h14 : Own w0 Im w14 (({ r with gv := gv', gone := r.gone ++ [r.E[i].id] } : RefG).L ++ Fr) := by
    unfold RefG.L RefG.cells
    simp only [List.length_append, List.length_cons, List.length_nil, Nat.zero_add] at h14 ⊢
    exact h14
  rw [wrap_id (by omega) (by omega)] at e15
  have er : r15.toNat = i + 1 := by omega
  have h14 := h14.drew
  have hcap := hr.lv.cap
  refine ⟨vecA r.lv, r.E.length, vecC r.lv, h14.cell 0 rfl _, by omega, by omega, fun a17 e17 => ⟨vecA r.lv, r.E.length, vecC r.lv, h14.cell 0 rfl _, by omega, by omega, fun a19 e19 b20 w21 e20 e21 => ?_⟩⟩
  have h21 := h14.alloc' e20 e21
  refine ⟨h21.cell 1 rfl _, h21.cell 1 rfl _, ?_⟩
  have htl : (r.E.take i).length = i := by simp; omega
  have hdl : (r.E.drop (i + 1)).length = r.E.length - (i + 1) := by simp
  have hv0 : VecE kpC 4 (some (b20, 0, [])) ([] : List Kp) := ⟨rfl, Nat.le_refl _, Nat.zero_le _, rfl, rfl⟩
  obtain ⟨x1, w22, hr22, ho22, hx22⟩ := vecE_append (n := 4) (P := Tryd.prog) (t := 37) (ty := 37) (e := 54) (bytes := 40) (z := .agg #[.int .i64 0, .string ByteArray.empty, .int .i64 0, .int .i64 0]) (f := kpC) (x := some (b20, 0, [])) (xs := []) (a := vecA r.lv) (c := vecC r.lv) (ys := r.E.take i) Tryd.underlying37 Tryd.type54 rfl rfl rfl rfl kpC_len kpC_one
    h21 hv0 (vecE_first (e := 54) kpC_len h21 (fun p hp => by simp [RefG.L, hp]) hr.lv i) (by rw [htl]; simp; omega) (by rw [htl]; simp [maxLen]; omega)
  rw [htl, List.length_nil, Nat.zero_add] at hr22
  rw [List.nil_append] at hx22
  refine ⟨_, _, _, w22, by rw [e17, ei]; exact hr22, ?_⟩
  have hm2 : ∀ p ∈ vecL 54 r.lv, p ∈ vecL 54 x1 ++ ((({ r with gv := gv', gone := r.gone ++ [r.E[i].id] } : RefG).L ++ Fr)) := fun p hp => by simp [RefG.L, hp]
  have c22 := fun k => (ho22.perm (perm_l (vecL 54 x1) [_] _)).cell 0 (b := r.rb) rfl k
  refine ⟨c22 _, c22 _, ?_⟩
  obtain ⟨x2, w24, hr24, ho24, hx24⟩ := vecE_append (n := 4) (P := Tryd.prog) (t := 37) (ty := 37) (e := 54) (bytes := 40) (z := .agg #[.int .i64 0, .string ByteArray.empty, .int .i64 0, .int .i64 0]) (f := kpC) (a := subA (vecA r.lv) 4 (vecC r.lv) (i + 1)) (c := vecC r.lv - (i + 1)) (ys := r.E.drop (i + 1)) Tryd.underlying37 Tryd.type54 rfl rfl rfl rfl kpC_len kpC_one
    ho22 hx22 (vecE_from (e := 54) kpC_len ho22 hm2 hr.lv (i + 1)) (by rw [htl, hdl]; omega) (by rw [htl, hdl]; simp only [maxLen]; omega)
  rw [htl, hdl] at hr24
  refine ⟨_, _, _, w24, by rw [e19, er]; exact hr24, ?_⟩
  have e24 : (({ r with gv := gv', gone := r.gone ++ [r.E[i].id] } : RefG).L ++ Fr) = (r.rb, .cells ({ r with gv := gv', gone := r.gone ++ [r.E[i].id] } : RefG).cells 40 (0, 0)) :: (vecL 54 r.lv ++ (vecL 3 gv' ++ Fr)) := by
    simp only [RefG.L, List.cons_append, List.append_assoc]
  have ho24' : Own w0 Im w24 (vecL 54 x2 ++ (({ r with gv := gv', gone := r.gone ++ [r.E[i].id] } : RefG).L ++ Fr)) := ho24
  rw [e24] at ho24'
  have h24 := ho24'.perm (perm_l (vecL 54 x2) [(r.rb, .cells ({ r with gv := gv', gone := r.gone ++ [r.E[i].id] } : RefG).cells 40 (0, 0))] _)
  have h24' : Own w0 Im w24 ((r.rb, .cells ({ r with gv := gv', gone := r.gone ++ [r.E[i].id] } : RefG).cells 40 (0, 0)) :: (vecL 54 x2 ++ (vecL 3 gv' ++ Fr))) :=
    h24.sub (((List.Sublist.refl _).append (List.sublist_append_right _ _)).cons_cons _)
  refine ⟨h24'.cell 0 rfl _, h24'.cell 0 rfl _, by rw [h24'.cell 0 rfl _]; rfl, h24'.frozen 0 rfl _, fun w26 e26 => ?_⟩
  have h26 := h24'.set 0 rfl (0 + 1) (.slice (vecA x2) (i + (r.E.length - (i + 1))) (vecC x2))
  rw [← e26] at h26
  refine hR w26 { r with lv := x2, E := r.E.take i ++ r.E.drop (i + 1), gv := gv', gone := r.gone ++ [r.E[i].id] } ?_ ⟨hx24, hg12, ?_, ?_, ?_⟩ ⟨rfl, rfl, rfl, rfl, rfl⟩
  · have el : (r.E.take i ++ r.E.drop (i + 1)).length = i + (r.E.length - (i + 1)) := by rw [List.length_append, htl, hdl]
    unfold RefG.L RefG.cells
    rw [el]
    simp only [List.cons_append, List.append_assoc]
    exact h26
  · have e : (r.E.take i ++ r.E.drop (i + 1)) = lessK r.E r.E[i].key := (lessK_at hr.nd hi).symm
    show ((r.E.take i ++ r.E.drop (i + 1)).map (·.key)).Nodup
    rw [e]
    exact (List.filter_sublist.map _).nodup hr.nd
  · show (r.E.take i ++ r.E.drop (i + 1)).length ≤ 4096
    rw [List.length_append, htl, hdl]; omega
  · show (r.gone ++ [r.E[i].id]).length < 4398046507000
    simp; omega
end
end Go.Proofs.YtimokldcmpbjcaaDoor
