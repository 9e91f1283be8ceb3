/- A part of the proof: lemmas. -/
import Derived.Test.YtgkcckghmlccnaaVcBufC
namespace Go.Proofs.Ytgkcckghmlccnaa
open Go Go.Vc
set_option maxRecDepth 100000
set_option linter.unusedVariables false

/-- A block that is kept. -/
structure Rec where
  n : Int
  blk : Nat
  a : Option Addr
  c : Nat
  bs : List Int
  dirty : Bool
def Rec.obj (r : Rec) : Nat × Obj := (r.blk, .cells #[.slice r.a 512 r.c, .bool r.dirty] 62 (0, 0))
structure CacheG where
  cb : Nat
  db : Nat
  room : Int
  mb : Nat
  M : List (Ent Int)
  clk : Nat
  ord : VecB
  ns : List Int
  recs : List Rec
  hits : Int
  misses : Int
  ev : Int
  wr : Int
def CacheG.cells (c : CacheG) : Array Value :=
  #[.pointer (some ⟨c.db, 0, none⟩), .int .i64 c.room, .map (some c.mb), .slice (vecA c.ord) c.ns.length (vecC c.ord), .int .i64 c.hits, .int .i64 c.misses, .int .i64 c.ev, .int .i64 c.wr]
def CacheG.L (c : CacheG) (Fr : List (Nat × Obj)) : List (Nat × Obj) :=
  (c.cb, .cells c.cells 56 (0, 0)) :: (c.mb, mapObj (encI .i64) c.M c.clk) :: (vecL 3 c.ord ++ (c.recs.map Rec.obj ++ Fr))
def CacheG.look (c : CacheG) (n : Int) : Option Rec := c.recs.find? fun r => decide (r.n = n)
structure CacheOk (Im : Mem) (c : CacheG) : Prop where
  vec : VecOk 1 c.ord c.ns.length (i64s c.ns)
  nd : (c.M.map (·.1)).Nodup
  map : ∀ n, aget c.M n = (c.look n).map fun r => .pointer (some ⟨r.blk, 0, none⟩)
  bytes : ∀ r ∈ c.recs, BytesIn Im r.a 512 r.bs
  rn : (c.recs.map (·.n)).Nodup
  nn : c.ns.Nodup
  small : c.ns.length ≤ 2048
theorem CacheOk.mono {Im Im' : Mem} (h : Im.le Im') {c : CacheG} (hc : CacheOk Im c) : CacheOk Im' c := ⟨hc.vec, hc.nd, hc.map, fun r hr => (hc.bytes r hr).mono h, hc.rn, hc.nn, hc.small⟩
theorem look_mem {c : CacheG} {n : Int} {r : Rec} (h : c.look n = some r) : r ∈ c.recs ∧ r.n = n := by
  unfold CacheG.look at h
  exact ⟨List.mem_of_find?_eq_some h, by simpa using List.find?_some h⟩
theorem look_none {c : CacheG} {n : Int} : c.look n = none ↔ n ∉ c.recs.map (·.n) := by
  unfold CacheG.look
  simp only [List.find?_eq_none, decide_eq_true_eq, List.mem_map, not_exists, not_and]
theorem look_of_mem {c : CacheG} {r : Rec} (hn : (c.recs.map (·.n)).Nodup) (h : r ∈ c.recs) : c.look r.n = some r := by
  unfold CacheG.look
  revert hn h
  generalize c.recs = l
  induction l with
  | nil => intro _ h; cases h
  | cons x l ih =>
    intro hn h
    simp only [List.map_cons, List.nodup_cons] at hn
    rw [List.find?_cons]
    rcases List.mem_cons.1 h with rfl | h
    · simp
    · have : x.n ≠ r.n := fun e => hn.1 (e ▸ List.mem_map_of_mem h)
      simp only [this, decide_false]
      exact ih hn.2 h

section
variable {w0 w : World} {Im : Mem} {Fr L : List (Nat × Obj)} {c : CacheG} {R : Ending → World → Prop}

theorem Own.cellm (h : Own w0 Im w L) {b : Nat} {cs : Array Value} {T : Nat} {z : Nat × Nat} (hm : (b, Obj.cells cs T z) ∈ L) (k : Nat) : w.cell? ⟨b, k, none⟩ = cs[k]? := cell_of (h.mem hm) k

theorem s21 (h : Own w0 Im w (c.L Fr)) (hR : R (.returned (.bool true)) w) : Calls Try.prog 21 #[.pointer (some ⟨c.cb, 0, none⟩)] w R := by
  apply vc21
  unfold Vc21
  exact ⟨fun _ => ⟨_, _, rfl, _, h.cell 0 rfl _, hR⟩, fun e => (by cases e)⟩

/-- (*Cache).Kept -/
theorem s16 (h : Own w0 Im w (c.L Fr)) (hc : CacheOk Im c)
    (hR : ∀ Im' w' a' c', Im.le Im' → Own w0 Im' w' (c.L Fr) → IntsIn Im' a' c.ns.length c.ns → R (.returned (.slice a' c.ns.length c')) w') : Calls Try.prog 16 #[.pointer (some ⟨c.cb, 0, none⟩)] w R := by
  apply vc16
  unfold Vc16
  have hs := hc.small
  refine s21 h ⟨_, rfl, fun _ => ⟨_, _, rfl, _, _, _, h.cell 0 rfl _, ?_⟩, fun e => (by cases e)⟩
  have hp : Own w0 Im w (vecL 3 c.ord ++ ([(c.cb, .cells c.cells 56 (0, 0)), (c.mb, mapObj (encI .i64) c.M c.clk)] ++ (c.recs.map Rec.obj ++ Fr))) := h.perm (perm_l [_, _] (vecL 3 c.ord) _)
  exact s29 hp hc.vec (by omega) fun Im' w' a' c' hle ho hi => ⟨_, _, _, rfl, hR Im' w' a' c' hle (ho.perm (perm_l [_, _] (vecL 3 c.ord) _).symm) hi⟩

/-- (*Cache).drop -/
theorem s27 {n : Int} (h : Own w0 Im w (c.L Fr)) (hv : VecOk 1 c.ord c.ns.length (i64s c.ns)) (hs : c.ns.length ≤ 2048)
    (hR : ∀ w' o', Own w0 Im w' (({ c with ord := o', ns := c.ns.filter fun k => !decide (k = n) } : CacheG).L Fr) → VecOk 1 o' (c.ns.filter fun k => !decide (k = n)).length (i64s (c.ns.filter fun k => !decide (k = n))) → R (.returned (.tuple #[])) w') :
    Calls Try.prog 27 #[.pointer (some ⟨c.cb, 0, none⟩), .int .i64 n] w R := by
  apply vc27
  unfold Vc27
  intro b3 w4 e3 e4
  have h4 := h.alloc' e3 e4
  refine ⟨_, _, rfl, _, _, _, h4.cell 1 rfl _, ?_⟩
  have hp : Own w0 Im w4 (vecL 3 c.ord ++ ([(b3, .cells #[.int .i64 n] 3 (0, 0)), (c.cb, .cells c.cells 56 (0, 0)), (c.mb, mapObj (encI .i64) c.M c.clk)] ++ (c.recs.map Rec.obj ++ Fr))) := h4.perm (perm_l [_, _, _] (vecL 3 c.ord) _)
  refine s37 hp hv (by omega) (fun k => decide (k = n)) (fun w' x' k R ho hk hr => ?_) (fun w' x' ho hx => ⟨_, _, _, rfl, ?_⟩)
  · refine ⟨38, _, _, rfl, Try.call38, ?_⟩
    show Calls Try.prog 38 #[.int .i64 k, .pointer (some ⟨b3, 0, none⟩)] w' R
    apply vc38
    unfold Vc38
    exact ⟨_, _, rfl, _, Own.cellm ho (b := b3) (cs := #[.int .i64 n]) (T := 3) (z := (0, 0)) (by simp) 0, hr⟩
  · have h9 := ho.perm (perm_l [_, _, _] (vecL 3 x') (c.recs.map Rec.obj ++ Fr)).symm
    refine ⟨by rw [h9.cell 1 rfl _]; rfl, h9.frozen 1 rfl _, fun w11 e11 => ?_⟩
    have h11 := (h9.set 1 rfl (0 + 3) (.slice (vecA x') (c.ns.filter fun k => !decide (k = n)).length (vecC x'))).tail rfl
    rw [← e11] at h11
    exact hR w11 x' h11 hx

/-- (*Cache).last -/
theorem s22 {n : Int} (h : Own w0 Im w (c.L Fr)) (hv : VecOk 1 c.ord c.ns.length (i64s c.ns)) (hs : c.ns.length ≤ 2048)
    (hR : ∀ w' o', Own w0 Im w' (({ c with ord := o', ns := (c.ns.filter fun k => !decide (k = n)) ++ [n] } : CacheG).L Fr) → VecOk 1 o' ((c.ns.filter fun k => !decide (k = n)) ++ [n]).length (i64s ((c.ns.filter fun k => !decide (k = n)) ++ [n])) → R (.returned (.tuple #[])) w') :
    Calls Try.prog 22 #[.pointer (some ⟨c.cb, 0, none⟩), .int .i64 n] w R := by
  apply vc22
  unfold Vc22
  refine s27 h hv hs fun w3 o3 h3 hv3 => ⟨rfl, _, _, rfl, _, _, _, h3.cell 0 rfl _, fun b8 w9 e8 e9 => ?_⟩
  have h9 := h3.alloc' e8 e9
  have hfl : (c.ns.filter fun k => !decide (k = n)).length ≤ c.ns.length := List.length_filter_le _ _
  have hp := h9.perm (perm_l [_, _, _] (vecL 3 o3) (c.recs.map Rec.obj ++ Fr))
  obtain ⟨x', w10, hr, ho, hx⟩ := own_append (t := 43) (ty := 43) (e := 3) (bytes := 8) (size := 1) (z := .int .i64 0) (a := ⟨b8, 0, none⟩) (m := 1) (c := 1) (news := [.int .i64 n]) Try.underlying43 Try.type3 rfl rfl rfl rfl hp hv3 rfl
    (h9.cellsAt 0 rfl (fun j v hj => by simpa using hj)) (by intro u hu; simp at hu; subst hu; rfl) (by omega) (by omega) (by simp only [maxLen]; omega)
  refine ⟨_, _, _, w10, hr, ?_⟩
  have h10 := (ho.perm (perm_l [_, _, _] (vecL 3 x') (c.recs.map Rec.obj ++ Fr)).symm).tail rfl
  refine ⟨by rw [h10.cell 0 rfl _]; rfl, h10.frozen 0 rfl _, fun w12 e12 => ?_⟩
  have h12 := h10.set 0 rfl (0 + 3) (.slice (vecA x') ((c.ns.filter fun k => !decide (k = n)).length + 1) (vecC x'))
  rw [← e12] at h12
  have ei : i64s ((c.ns.filter fun k => !decide (k = n)) ++ [n]) = i64s (c.ns.filter fun k => !decide (k = n)) ++ [.int .i64 n] := by simp [i64s]
  have el : ((c.ns.filter fun k => !decide (k = n)) ++ [n]).length = (c.ns.filter fun k => !decide (k = n)).length + 1 := by simp
  refine hR w12 x' ?_ (by rw [ei, el]; exact hx)
  unfold CacheG.L CacheG.cells
  simp only [el]
  exact h12

theorem run_look (h : Own w0 Im w L) (hm : (c.mb, mapObj (encI .i64) c.M c.clk) ∈ L) (hc : CacheOk Im c) (n : Int) :
    (Instr.lookup 52 (.map (some c.mb)) (.int .i64 n) true).run Try.prog w = .ok (.tuple #[.pointer ((c.look n).map fun r => ⟨r.blk, 0, none⟩), .bool (c.look n).isSome]) w ∧
    (Instr.lookup 52 (.map (some c.mb)) (.int .i64 n) false).run Try.prog w = .ok (.pointer ((c.look n).map fun r => ⟨r.blk, 0, none⟩)) w := by
  have h1 := fun ok => run_lookup (P := Try.prog) (t := 52) (K := 3) (E := 57) (enc := encI .i64) Try.underlying52 hkInt (w := w) (b := c.mb) (M := c.M) (clk := c.clk) (h.mem hm) n ok (z := .pointer none) Try.type57 rfl
  rw [hc.map n] at h1
  cases hl : c.look n with
  | none => rw [hl] at h1; exact ⟨h1 true, h1 false⟩
  | some r => rw [hl] at h1; exact ⟨h1 true, h1 false⟩

theorem rec_mem {r : Rec} (h : r ∈ c.recs) {A B : List (Nat × Obj)} : r.obj ∈ A ++ (c.recs.map Rec.obj ++ B) := by
  simp only [List.mem_append, List.mem_map]
  exact .inr (.inl ⟨r, h, rfl⟩)

/-- slices.Delete of one. -/
theorem s36 {x : VecB} {ks : List Int} (h : Own w0 Im w (vecL 3 x ++ L)) (hx : VecOk 1 x ks.length (i64s ks)) (hb : ks.length ≤ 2048) {i : Nat} (hi : i < ks.length)
    (hR : ∀ w' x', Own w0 Im w' (vecL 3 x' ++ L) → VecOk 1 x' (ks.eraseIdx i).length (i64s (ks.eraseIdx i)) → R (.returned (.slice (vecA x') (ks.eraseIdx i).length (vecC x'))) w') :
    Calls Try.prog 36 #[.slice (vecA x) ks.length (vecC x), .int .i64 i, .int .i64 ((i : Int) + 1)] w R := by
  apply vc36
  unfold Vc36
  cases x with
  | none => have : _ ≤ 0 := hx.2.1; omega
  | some y =>
    obtain ⟨g, cap, cur⟩ := y
    obtain ⟨hx1, hx2, hx3, hx4, hx5⟩ := hx
    simp only [Nat.mul_one] at hx4 hx5
    have hcap : ks.length ≤ cap := hx2
    have hel : (ks.eraseIdx i).length = ks.length - 1 := by rw [List.length_eraseIdx, if_pos hi]
    refine ⟨by omega, by omega, by omega, by show ((ks.length : Nat) : Int) ≤ ((cap : Nat) : Int); omega, fun a4 _ => ⟨fun e => (by omega), fun _ => ⟨by omega, by show (i : Int) ≤ ((cap : Nat) : Int); omega, fun a5 e5 => ⟨by omega, by omega, fun a6 e6 => ?_⟩⟩⟩⟩
    have hg := h.get 0 (b := g) (o := .cells cur.toArray 3 (0, 0)) rfl
    have et : ((i : Int)).toNat = i := by omega
    have et1 : ((i : Int) + 1).toNat = i + 1 := by omega
    rw [e5, et]
    rw [et1] at e6 ⊢
    -- the tail goes one place down
    have hcurEq : cur = i64s ks ++ cur.drop ks.length := by rw [← hx5, List.take_append_drop]
    have key : ∃ w7, (Builtin.append_ #[43, 43] 43 #[.slice (vecA (some (g, cap, cur))) i (vecC (some (g, cap, cur))), .slice a6 (ks.length - (i + 1)) (vecC (some (g, cap, cur)) - (i + 1))]).run Try.prog w.drew = .ok (.slice (some ⟨g, 0, none⟩) (ks.length - 1) cap) w7 ∧
        ∃ cur', Own w0 Im w7 (vecL 3 (some (g, cap, cur')) ++ L) ∧ cur'.length = cap ∧ cur'.take (ks.length - 1) = i64s (ks.eraseIdx i) := by
      have hd := h.drew
      have hgd := hd.get 0 (b := g) (o := .cells cur.toArray 3 (0, 0)) rfl
      by_cases hlast : ks.length - (i + 1) = 0
      · rw [hlast]
        have hr := run_append_0 (P := Try.prog) (w := w.drew) (t := 43) (ty := 43) (e := 3) (a := vecA (some (g, cap, cur))) (b := a6) (n := i) (c := cap) (c2 := cap - (i + 1)) Try.underlying43 Try.type3 (by omega)
        refine ⟨w.drew, ?_, cur, hd, hx4, ?_⟩
        · rw [show ks.length - 1 = i by omega]; exact hr
        · have e : ks.eraseIdx i = ks.take i := by
            rw [List.eraseIdx_eq_take_drop_succ, List.drop_eq_nil_of_le (by omega), List.append_nil]
          rw [e, show ks.length - 1 = i by omega]
          have : cur.take i = (cur.take ks.length).take i := by rw [List.take_take, Nat.min_eq_left (by omega)]
          rw [this, hx5]; simp [i64s]
      · have ea6 : a6 = some ⟨g, i + 1, none⟩ := by
          rw [e6]; unfold subA
          show (if cap = i + 1 then _ else _) = _
          rw [if_neg (by omega)]
          simp [vecA, add_z]
        rw [ea6]
        have hsrc : ∀ j u, (i64s (ks.drop (i + 1)))[j]? = some u → w.drew.cell? ((⟨g, i + 1, none⟩ : Addr).add j) = some u := by
          intro j u hj
          rw [add_none, cell_of hgd, List.getElem?_toArray, hcurEq]
          have hj2 : i + 1 + j < ks.length := by
            have := (List.getElem?_eq_some_iff.1 hj).1; simp at this; omega
          rw [List.getElem?_append_left (by simp; omega)]
          have : i64s (ks.drop (i + 1)) = (i64s ks).drop (i + 1) := by simp [i64s]
          rw [this, List.getElem?_drop] at hj
          exact hj
        have hr := run_append_room (P := Try.prog) w.drew 43 43 3 _ Try.underlying43 Try.type3 g i cap cur.toArray hgd ⟨g, i + 1, none⟩ (ks.length - (i + 1)) (cap - (i + 1)) (i64s (ks.drop (i + 1))) (by show (i64s (ks.drop (i + 1))).length = (ks.length - (i + 1)) * 1; simp) hsrc i64s_one (by omega)
          (by show i * 1 + (i64s (ks.drop (i + 1))).length ≤ cur.toArray.size; simp; omega)
        refine ⟨_, by rw [show ks.length - 1 = i + (ks.length - (i + 1)) by omega]; exact hr, _, hd.setRow 0 (b := g) (cs := cur.toArray) (T := 3) (z := (0, 0)) rfl, ?_, ?_⟩
        · show (cur.take (i * 1) ++ i64s (ks.drop (i + 1)) ++ cur.drop (i * 1 + (i64s (ks.drop (i + 1))).length)).length = cap
          simp only [List.length_append, List.length_take, List.length_drop, i64s_length, Nat.mul_one]; omega
        · show (cur.take (i * 1) ++ i64s (ks.drop (i + 1)) ++ cur.drop (i * 1 + (i64s (ks.drop (i + 1))).length)).take (ks.length - 1) = _
          have e1 : cur.take (i * 1) ++ i64s (ks.drop (i + 1)) = i64s (ks.eraseIdx i) := by
            rw [List.eraseIdx_eq_take_drop_succ]
            have : cur.take (i * 1) = (cur.take ks.length).take i := by rw [List.take_take, Nat.min_eq_left (by omega), Nat.mul_one]
            rw [this, hx5]; simp [i64s]
          rw [e1]
          have e2 : (i64s (ks.eraseIdx i)).length = ks.length - 1 := by rw [i64s_length, hel]
          rw [← e2]; exact List.take_left
    obtain ⟨w7, hr, cur', h7, hl', ht'⟩ := key
    refine ⟨_, _, _, w7, hr, by omega, by omega, by omega, fun a9 e9 => ?_⟩
    have htn : (((ks.length - 1 : Nat) : Int)).toNat = ks.length - 1 := by omega
    have htk : (((ks.length : Nat) : Int)).toNat = ks.length := by omega
    rw [htn, htk]
    rw [htn] at e9
    have ea9 : a9 = some ⟨g, ks.length - 1, none⟩ := by
      rw [e9]; unfold subA
      rw [if_neg (by omega)]
      simp [add_z]
    rw [ea9]
    have hg7 := h7.get 0 (b := g) (o := .cells cur'.toArray 3 (0, 0)) rfl
    have hcl := run_clear_row (P := Try.prog) (t := 43) (ty := 0) (e := 3) (size := 1) (z := .int .i64 0) Try.underlying43 Try.type3 rfl rfl (by intro u hu; simp [Value.cells] at hu; subst hu; rfl) (w := w7) (g := g) (o := ks.length - 1) (n := ks.length - (ks.length - 1)) (c := cap - (ks.length - 1)) hg7 (by omega) (by omega)
    refine ⟨_, hcl, ?_⟩
    have h10 := h7.setRow 0 (b := g) (cs := cur'.toArray) (T := 3) (z := (0, 0)) (cs' := (cur'.take (ks.length - 1) ++ (Builtin.zeroCells (Value.int .i64 0).cells (ks.length - (ks.length - 1))).toList ++ cur'.drop (ks.length - 1 + (ks.length - (ks.length - 1)) * 1)).toArray) rfl
    have := hR _ (some (g, cap, cur'.take (ks.length - 1) ++ (Builtin.zeroCells (Value.int .i64 0).cells (ks.length - (ks.length - 1))).toList ++ cur'.drop (ks.length - 1 + (ks.length - (ks.length - 1)) * 1))) h10 ⟨by simp, by rw [hel]; show ks.length - 1 ≤ cap; omega, hx3, ?_, ?_⟩
    · rw [hel] at this; exact this
    · simp only [List.length_append, List.length_take, List.length_drop, zeros_int, List.length_replicate, Nat.mul_one]; omega
    · rw [hel, ← ht', Nat.mul_one, List.append_assoc, List.take_append_of_le_length (by simp; omega), List.take_take, Nat.min_self]
end
end Go.Proofs.Ytgkcckghmlccnaa
