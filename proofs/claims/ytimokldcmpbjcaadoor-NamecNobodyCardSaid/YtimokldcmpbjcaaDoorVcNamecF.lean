/- A part of the proof: lemmas. -/
import Derived.Test.YtimokldcmpbjcaaDoorVcNamecE
namespace Go.Proofs.YtimokldcmpbjcaaDoor
open Go Go.Vc
set_option maxRecDepth 100000
set_option linter.unusedVariables false

def nameE (a : Name) : Value := .agg (nameC a).toArray
theorem keyName : KeyLaw nameE Tryd.prog 42 :=
  keyLaw2 (K := 42) Tryd.underlying42 (by kernel_rfl) (by decide) (by decide) rfl rfl (fun _ => rfl) (fun _ => Tryd.underlying3) (fun _ => Tryd.underlying9) fun a b => by
    simp only [plainB, bytes_beq, Prod.ext_iff]
    by_cases h1 : a.1 = b.1 <;> by_cases h2 : a.2 = b.2 <;> simp [h1, h2]
theorem name_guard {x y : Operand} (a b : Name) (w : World) : (eqGuard .eql 42 x y (nameE a) (nameE b)).run Tryd.prog w = .ok () w := by
  unfold eqGuard nameE
  simp
theorem name_eq (a b : Name) (w : World) : (binOp .eql 42 (nameE a) (nameE b)).run Tryd.prog w = .ok (.bool (decide (a = b))) w := by
  have h : (Op.equal 42 (nameE a) (nameE b)).run Tryd.prog w = .ok (plainB (.int .i64 a.1) (.int .i64 b.1) && plainB (.string a.2) (.string b.2)) w :=
    key_equal2 (K := 42) Tryd.underlying42 (by kernel_rfl) (by decide) (by decide) rfl rfl Tryd.underlying3 Tryd.underlying3 Tryd.underlying9 Tryd.underlying9
  have e : (plainB (.int .i64 a.1) (.int .i64 b.1) && plainB (.string a.2) (.string b.2)) = decide (a = b) := by
    simp only [plainB, bytes_beq, Prod.ext_iff]
    by_cases h1 : a.1 = b.1 <;> by_cases h2 : a.2 = b.2 <;> simp [h1, h2]
  rw [e] at h
  unfold binOp
  simp [nameE]
  unfold nameE at h
  rw [h]; rfl

theorem name_guard' {x y : Operand} (a b : Name) (w : World) : (eqGuard .neq 42 x y (nameE a) (nameE b)).run Tryd.prog w = .ok () w := by
  unfold eqGuard nameE
  simp
theorem name_ne (a : Name) (w : World) : (binOp .neq 42 (nameE a) (nameE a)).run Tryd.prog w = .ok (.bool false) w := by
  have h : (Op.equal 42 (nameE a) (nameE a)).run Tryd.prog w = .ok (plainB (.int .i64 a.1) (.int .i64 a.1) && plainB (.string a.2) (.string a.2)) w :=
    key_equal2 (K := 42) Tryd.underlying42 (by kernel_rfl) (by decide) (by decide) rfl rfl Tryd.underlying3 Tryd.underlying3 Tryd.underlying9 Tryd.underlying9
  have e : (plainB (.int .i64 a.1) (.int .i64 a.1) && plainB (.string a.2) (.string a.2)) = true := by
    simp [plainB, bytes_beq]
  rw [e] at h
  unfold binOp
  simp [nameE]
  unfold nameE at h
  rw [h]; rfl

/-- What is kept under a name. -/
structure Kp where
  key : Name
  ino : Int
  id : Int
structure CacheG where
  cb : Nat
  d : DomG
  room : Int
  mb : Nat
  M : List (Ent Name)
  clk : Nat
  ov : VecB
  E : List Kp
  last : Int
def CacheG.cells (c : CacheG) : Array Value := #[.pointer (some ⟨c.d.db, 0, none⟩), .int .i64 c.room, .map (some c.mb), .slice (vecA c.ov) c.E.length (vecC c.ov), .int .i64 c.last]
def CacheG.H (c : CacheG) : List (Nat × Obj) := (c.cb, .cells c.cells 78 (0, 0)) :: (c.mb, mapObj nameE c.M c.clk) :: vecL 42 c.ov
def findK (E : List Kp) (k : Name) : Option Kp := E.find? fun x => decide (x.key = k)
def kpV (x : Kp) : Value := .agg #[.int .i64 x.ino, .int .i64 x.id]
structure CacheOk (c : CacheG) : Prop where
  dom : DomOk c.d
  vec : VecE nameC 2 c.ov (c.E.map (·.key))
  mnd : (c.M.map (·.1)).Nodup
  map : ∀ k, aget c.M k = (findK c.E k).map kpV
  nd : (c.E.map (·.key)).Nodup
  ids : ∀ x ∈ c.E, x.id ≤ c.last
  apart : ∀ x ∈ c.E, ∀ g ∈ c.d.waits.map (·.1), x.id ≠ g
  gone : ∀ g ∈ c.d.waits.map (·.1), g ≤ c.last
  idn : (c.E.map (·.id)).Nodup
  lo : 0 ≤ c.last
  rlo : 1 ≤ c.room
  rhi : c.room ≤ 4096
  full : (c.E.length : Int) ≤ c.room

theorem findK_mem {E : List Kp} {k : Name} {x : Kp} (h : findK E k = some x) : x ∈ E ∧ x.key = k := by
  unfold findK at h
  exact ⟨List.mem_of_find?_eq_some h, by simpa using List.find?_some h⟩
theorem findK_none {E : List Kp} {k : Name} : findK E k = none ↔ k ∉ E.map (·.key) := by
  unfold findK
  rw [List.find?_eq_none]
  simp only [decide_eq_true_eq, List.mem_map, not_exists, not_and]
theorem findK_of_mem {E : List Kp} (hn : (E.map (·.key)).Nodup) {x : Kp} (h : x ∈ E) : findK E x.key = some x := by
  cases e : findK E x.key with
  | none => exact absurd (List.mem_map_of_mem h) (findK_none.1 e)
  | some y =>
    obtain ⟨h1, h2⟩ := findK_mem e
    obtain ⟨i, hi, rfl⟩ := List.mem_iff_getElem.1 h
    obtain ⟨j, hj, rfl⟩ := List.mem_iff_getElem.1 h1
    have := nodup_inj hn (i := j) (j := i) (by simpa using hj) (by simpa using hi) (by simpa using h2)
    subst this; rfl
theorem findK_filter {E : List Kp} {k k' : Name} : findK (E.filter fun x => !decide (x.key = k)) k' = if k' = k then none else findK E k' := by
  unfold findK
  rw [List.find?_filter]
  by_cases e : k' = k
  · rw [if_pos e, List.find?_eq_none]
    intro x _
    by_cases h : x.key = k' <;> simp [h, e]
  · rw [if_neg e]
    congr 1
    funext x
    by_cases h : x.key = k'
    · simp [h, e]
    · simp [h]
theorem findK_snoc {E : List Kp} {x : Kp} {k : Name} (h : x.key ∉ E.map (·.key)) : findK (E ++ [x]) k = if k = x.key then some x else findK E k := by
  unfold findK
  rw [List.find?_append]
  by_cases e : k = x.key
  · subst e
    have := findK_none.2 h
    unfold findK at this
    rw [this]; simp
  · rw [if_neg e]
    have : ([x].find? fun y => decide (y.key = k)) = none := by simp; exact fun h => e h.symm
    rw [this]; simp
/-- What is forgotten. -/
def lessK (E : List Kp) (k : Name) : List Kp := E.filter fun x => !decide (x.key = k)
theorem lessK_keys (E : List Kp) (k : Name) : (lessK E k).map (·.key) = (E.map (·.key)).filter fun x => !decide (x = k) := by
  unfold lessK
  rw [List.filter_map]; rfl
theorem lessK_len {E : List Kp} {k : Name} : (lessK E k).length ≤ E.length := List.length_filter_le _ _
theorem lessK_lt {E : List Kp} {k : Name} (h : k ∈ E.map (·.key)) : (lessK E k).length < E.length := by
  obtain ⟨x, hx, e⟩ := List.mem_map.1 h
  unfold lessK
  refine Nat.lt_of_le_of_ne (List.length_filter_le _ _) fun h => ?_
  have := List.length_filter_eq_length_iff.1 h x hx
  simp [e] at this
theorem lessK_not {E : List Kp} {k : Name} (h : k ∉ E.map (·.key)) : lessK E k = E :=
  List.filter_eq_self.2 fun x hx => by
    have : x.key ≠ k := fun e => h (e ▸ List.mem_map_of_mem hx)
    simp [this]

section
variable {w0 w : World} {Im : Mem} {Fr L : List (Nat × Obj)} {c : CacheG} {R : Ending → World → Prop}

/-- (*Cache).made -/
theorem s34 (h : Own w0 Im w (c.H ++ Fr)) (hR : R (.returned (.bool true)) w) : Calls Tryd.prog 34 #[.pointer (some ⟨c.cb, 0, none⟩)] w R := by
  apply vc34
  unfold Vc34
  exact ⟨fun _ => ⟨_, _, rfl, _, h.cell 0 rfl _, hR⟩, fun e => by cases e⟩

/-- namec.New -/
theorem s12 {d : DomG} {room : Int} (h : Own w0 Im w L) (hd : DomOk d) (hno : room < 1 ∨ 4096 < room → R (.returned (.tuple #[.pointer none, .int .i64 1])) w)
    (hR : ∀ w' cb mb, 1 ≤ room → room ≤ 4096 → Own w0 Im w' (({ cb := cb, d := d, room := room, mb := mb, M := [], clk := 0, ov := none, E := [], last := 0 } : CacheG).H ++ L) → R (.returned (.tuple #[.pointer (some ⟨cb, 0, none⟩), .int .i64 0])) w') :
    Calls Tryd.prog 12 #[.pointer (some ⟨d.db, 0, none⟩), .int .i64 room] w R := by
  apply vc12
  unfold Vc12
  refine ⟨fun e => (by cases e), fun _ => ⟨fun e => hno (.inl e), fun h1 => ⟨fun e => hno (.inr e), fun h2 b3 w4 e3 e4 b5 w6 e5 e6 => ?_⟩⟩⟩
  exact hR w6 b5 b3 (by omega) (by omega) ((h.alloc' e3 e4).alloc' e5 e6)

theorem run_look (h : Own w0 Im w L) (hm : (c.mb, mapObj nameE c.M c.clk) ∈ L) (hc : CacheOk c) (k : Name) :
    (Instr.lookup 76 (.map (some c.mb)) (nameE k) true).run Tryd.prog w = .ok (.tuple #[.agg #[.int .i64 (((findK c.E k).map (·.ino)).getD 0), .int .i64 (((findK c.E k).map (·.id)).getD 0)], .bool (findK c.E k).isSome]) w ∧
    (Instr.lookup 76 (.map (some c.mb)) (nameE k) false).run Tryd.prog w = .ok (.agg #[.int .i64 (((findK c.E k).map (·.ino)).getD 0), .int .i64 (((findK c.E k).map (·.id)).getD 0)]) w := by
  have h1 := fun ok => run_lookup (P := Tryd.prog) (t := 76) (K := 42) (E := 80) (enc := nameE) Tryd.underlying76 keyName (w := w) (b := c.mb) (M := c.M) (clk := c.clk) (h.mem hm) k ok (z := .agg #[.int .i64 0, .int .i64 0]) Tryd.type80 rfl
  rw [hc.map k] at h1
  cases hl : findK c.E k with
  | none => rw [hl] at h1; exact ⟨h1 true, h1 false⟩
  | some r => rw [hl] at h1; exact ⟨h1 true, h1 false⟩

/-- (*Cache).Look -/
theorem s13 (h : Own w0 Im w (c.H ++ Fr)) (hc : CacheOk c) (k : Name) (hR : ∀ w', Own w0 Im w' (c.H ++ Fr) → R (.returned (.tuple #[.int .i64 (((findK c.E k).map (·.ino)).getD 0), .bool (findK c.E k).isSome])) w') :
    Calls Tryd.prog 13 #[.pointer (some ⟨c.cb, 0, none⟩), .agg #[.int .i64 k.1, .string k.2]] w R := by
  apply vc13
  unfold Vc13
  intro b4 w5 e4 e5
  have h5 := h.alloc' e4 e5
  have hp : ∀ {w'}, Own w0 Im w' ((b4, .cells #[.int .i64 k.1, .string k.2] 42 (0, 0)) :: (c.H ++ Fr)) → Own w0 Im w' (c.H ++ Fr) := fun h => h.tail rfl
  refine s34 (hp h5) ⟨_, rfl, fun _ => ?_, fun e => (by cases e)⟩
  have h7 := h5.drew
  refine ⟨_, _, rfl, _, h7.cell 1 rfl _, _, _, h7.cellsAt 0 rfl (vs := nameC k) (fun j v hj => by rw [Nat.zero_add, List.getElem?_toArray]; exact hj), _, _, _, (run_look h7 (by simp [CacheG.H]) hc k).1, fun b17 w18 e17 e18 => ?_⟩
  have h18 := h7.alloc' e17 e18
  refine ⟨(run_look h18 (by simp [CacheG.H]) hc k).1, h18.cellsAt 1 rfl (vs := nameC k) (fun j v hj => by rw [Nat.zero_add, List.getElem?_toArray]; exact hj), h18.cell 2 rfl _, h18.putOk 0 rfl (by simp), fun w19 e19 => ?_⟩
  have h19 := h18.put [.int .i64 (((findK c.E k).map (·.ino)).getD 0), .int .i64 (((findK c.E k).map (·.id)).getD 0)] 0 0 rfl 0
  rw [← e19] at h19
  exact ⟨_, h19.cell 0 rfl _, hR w19 (hp (h19.tail rfl))⟩

/-- The closure of Forget. -/
theorem s39 {b : Nat} {k o : Name} (h : Own w0 Im w L) (hm : (b, .cells (nameC k).toArray 42 (0, 0)) ∈ L) (hR : ∀ w', Own w0 Im w' L → R (.returned (.bool (decide (o = k)))) w') :
    Invoke Tryd.prog (.func (.func 39) #[] #[.pointer (some ⟨b, 0, none⟩)]) #[nameE o] w R := by
  refine ⟨39, #[], #[.pointer (some ⟨b, 0, none⟩)], rfl, Tryd.call39, ?_⟩
  apply vc39
  unfold Vc39
  intro b4 w5 e4 e5
  have h5 := h.alloc' e4 e5
  refine ⟨_, _, h5.cellsAt 0 rfl (vs := nameC o) (fun j v hj => by rw [Nat.zero_add, List.getElem?_toArray]; exact hj), _, _, rfl, k.1, k.2, ?_, decide (o = k), fun w' => name_guard o k w', fun w' => name_eq o k w', hR w5 (h5.tail rfl)⟩
  intro j v hj
  rw [add_none, Nat.zero_add, cell_of (h5.mem (List.mem_cons_of_mem _ hm)), List.getElem?_toArray]; exact hj
end
end Go.Proofs.YtimokldcmpbjcaaDoor
