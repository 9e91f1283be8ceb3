/-
  Slices that are owned: a nil slice, or one that begins at the head of a block of its own.
-/
import Derived.Test.YtmffnjdndhkbhaaVcHeap
import Derived.Laws.MakeOwn
import Derived.Lib.SliceRun
namespace Go.Vc
open Go

/-- A vector's block: its number, its capacity, all its cells. -/
abbrev VecB := Option (Nat × Nat × List Value)
def vecA : VecB → Option Addr
  | none => none
  | some (g, _, _) => some ⟨g, 0, none⟩
def vecC : VecB → Nat
  | none => 0
  | some (_, c, _) => c
def vecL (e : Nat) : VecB → List (Nat × Obj)
  | none => []
  | some (g, _, cur) => [(g, .cells cur.toArray e (0, 0))]
/-- The vector of n elements, each of 'size' cells, reads as xs. -/
def VecOk (size : Nat) (x : VecB) (n : Nat) (xs : List Value) : Prop :=
  xs.length = n * size ∧ n ≤ vecC x ∧ vecC x ≤ maxLen ∧ match x with
    | none => True
    | some (_, c, cur) => cur.length = c * size ∧ cur.take (n * size) = xs

theorem VecOk.nil {size : Nat} : VecOk size none 0 [] := ⟨by simp, by simp [vecC], by simp [vecC], trivial⟩
theorem VecOk.len {size n : Nat} {x : VecB} {xs : List Value} (h : VecOk size x n xs) : xs.length = n * size := h.1
theorem VecOk.none_iff {size n : Nat} {x : VecB} {xs : List Value} (h : VecOk size x n xs) : vecA x = none → n = 0 := by
  intro e
  cases x with
  | none => have := h.2.1; simpa [vecC] using this
  | some y => obtain ⟨g, c, cur⟩ := y; simp [vecA] at e

section
variable {P : Program} {w0 w : World} {Im : Mem} {L : List (Nat × Obj)}

theorem add_z (g j : Nat) : (⟨g, 0, none⟩ : Addr).add j = ⟨g, j, none⟩ := by rw [add_none, Nat.zero_add]

/-- A cell of a vector. -/
theorem vec_cell {size n : Nat} {xs : List Value} {g c : Nat} {cur : List Value} {e : Nat} (h : VecOk size (some (g, c, cur)) n xs) (hg : w.heap[g]? = some (.cells cur.toArray e (0, 0))) {j : Nat} {u : Value} (hj : xs[j]? = some u) : w.cell? ⟨g, j, none⟩ = some u := by
  obtain ⟨h1, h2, h3, h4, h5⟩ := h
  rw [cell_of hg]
  rw [← h5, List.getElem?_take] at hj
  split at hj
  · simpa using hj
  · cases hj

theorem Own.setRow (h : Own w0 Im w L) (i : Nat) {b : Nat} {cs cs' : Array Value} {T : Nat} {z : Nat × Nat} (hi : L[i]? = some (b, .cells cs T z)) :
    Own w0 Im (w.setRow b cs') (L.set i (b, .cells cs' T z)) :=
  h.turn i hi rfl rfl rfl (by simp) (setRow_heap w b cs cs' T z (h.get i hi)) (fun _ hk => setRow_other w b _ cs' hk)

variable {t ty e : Nat} {ti : TypeInfo} {z : Value}

/-- append onto a vector of one's own: whatever the capacity. -/
theorem own_append {size bytes : Nat} (ht : P.underlying t = some (.slice e)) (hi : P.info? e = some ti) (hz : ti.zero = some z) (hsize : ti.size = size) (hby : ti.bytes = bytes) (hzs : z.cells.size = size)
    {x : VecB} {n : Nat} {xs : List Value} (h : Own w0 Im w (vecL e x ++ L)) (hx : VecOk size x n xs)
    {a : Addr} {m c : Nat} {news : List Value} (hl : news.length = m * size) (hnews : CellsAt w a news) (h1 : ∀ u ∈ news, u.oneCell' = true) (hm0 : 0 < m)
    (hbytes : (n + m) * bytes ≤ 140737488355328) (h63 : n + m ≤ maxLen) :
    ∃ x' w', (Builtin.append_ #[t, t] ty #[.slice (vecA x) n (vecC x), .slice (some a) m c]).run P w = .ok (.slice (vecA x') (n + m) (vecC x')) w' ∧ Own w0 Im w' (vecL e x' ++ L) ∧ VecOk size x' (n + m) (xs ++ news) := by
  subst hsize
  subst hby
  have hlen : (xs ++ news).length = (n + m) * ti.size := by rw [List.length_append, hx.1, hl, Nat.add_mul]
  have hsm : n + m ≤ 9223372036854775807 := by simp only [maxLen] at h63; omega
  -- a new block
  have grown : ∀ (old : Nat) (l : List (Nat × Obj)), Own w0 Im w l → l = L →
      Own w0 Im (w.drew.alloc (.cells (xs.toArray ++ news.toArray ++ Builtin.zeroCells z.cells (grownCap w (n + m) old e - (n + m))) e))
        (vecL e (some (w.heap.size, grownCap w (n + m) old e, (xs.toArray ++ news.toArray ++ Builtin.zeroCells z.cells (grownCap w (n + m) old e - (n + m))).toList)) ++ L) ∧
      VecOk ti.size (some (w.heap.size, grownCap w (n + m) old e, (xs.toArray ++ news.toArray ++ Builtin.zeroCells z.cells (grownCap w (n + m) old e - (n + m))).toList)) (n + m) (xs ++ news) := by
    intro old l hl2 e2
    subst e2
    have hge := grownCap_ge w (n + m) old e
    have hcm : grownCap w (n + m) old e ≤ maxLen := grownCap_le_maxLen w (n + m) old e h63
    refine ⟨?_, hlen, hge, hcm, ?_, ?_⟩
    · have := hl2.drew.alloc (.cells (xs.toArray ++ news.toArray ++ Builtin.zeroCells z.cells (grownCap w (n + m) old e - (n + m))) e)
      simp only [vecL, Array.toArray_toList, List.cons_append, List.nil_append]
      exact this
    · simp only [Array.length_toList, Array.size_append, List.size_toArray, size_zeroCells, hzs, hx.1, hl, ← Nat.add_mul]
      congr 1
      omega
    · simp only [Array.toList_append, List.append_assoc]
      rw [← List.append_assoc, ← hlen]
      exact List.take_left
  cases x with
  | none =>
    have hn : n = 0 := by have := hx.2.1; simpa [vecC] using this
    subst hn
    have hxs : xs = [] := List.eq_nil_of_length_eq_zero (by simpa using hx.1)
    subst hxs
    have hr := run_append_nil (P := P) w t ty e ti z ht hi hz a m c news hl hnews hm0 (by omega) (by have hb := hbytes; simp only [Nat.zero_add] at hb; omega)
    have hgr := grown 0 L (by simpa [vecL] using h) rfl
    simp only [Nat.zero_add, List.nil_append, Array.empty_append] at hgr ⊢
    exact ⟨some (w.heap.size, grownCap w m 0 e, (news.toArray ++ Builtin.zeroCells z.cells (grownCap w m 0 e - m)).toList), _, hr, hgr.1, hgr.2⟩
  | some y =>
    obtain ⟨g, cap, cur⟩ := y
    have hg : w.heap[g]? = some (.cells cur.toArray e (0, 0)) := h.get 0 (by simp [vecL])
    obtain ⟨hx1, hx2, hx3, hx4, hx5⟩ := hx
    by_cases hroom : n + m ≤ cap
    · have hfit : n * ti.size + news.length ≤ cur.toArray.size := by
        rw [hl, List.size_toArray, hx4, ← Nat.add_mul]; exact Nat.mul_le_mul_right _ hroom
      have hr := run_append_room (P := P) w t ty e ti ht hi g n cap cur.toArray hg a m c news hl hnews h1 hroom hfit
      refine ⟨some (g, cap, cur.take (n * ti.size) ++ news ++ cur.drop (n * ti.size + news.length)), _, hr, ?_, ?_⟩
      · have := h.setRow 0 (b := g) (cs := cur.toArray) (T := e) (z := (0, 0)) (cs' := (cur.take (n * ti.size) ++ news ++ cur.drop (n * ti.size + news.length)).toArray) (by simp [vecL])
        simpa only [vecL, List.cons_append, List.nil_append, List.set_cons_zero] using this
      · refine ⟨hlen, hroom, hx3, ?_, ?_⟩
        · simp only [List.size_toArray] at hfit
          simp only [List.length_append, List.length_take, List.length_drop]
          omega
        · rw [hx5, ← hlen]; exact List.take_left
    · have holds : ∀ j u, xs[j]? = some u → w.cell? ((⟨g, 0, none⟩ : Addr).add j) = some u := fun j u hj => by
        rw [add_z]; exact vec_cell (e := e) ⟨hx1, hx2, hx3, hx4, hx5⟩ hg hj
      have hr := run_append_grow (P := P) w t ty e ti z ht hi hz ⟨g, 0, none⟩ n cap xs hx1 holds a m c news hl hnews (by omega) (by omega) (growslice_fits (by omega) hbytes)
      have hgr := grown cap L (h.sub (by simp [vecL])) rfl
      exact ⟨some (w.heap.size, grownCap w (n + m) cap e, (xs.toArray ++ news.toArray ++ Builtin.zeroCells z.cells (grownCap w (n + m) cap e - (n + m))).toList), _, hr, hgr.1, hgr.2⟩

/-- append of nothing. -/
theorem run_append_0 (ht : P.underlying t = some (.slice e)) (hi : P.info? e = some ti) {a b : Option Addr} {n c c2 : Nat} (hn : n ≤ c) :
    (Builtin.append_ #[t, t] ty #[.slice a n c, .slice b 0 c2]).run P w = .ok (.slice a n c) w := by
  have hf : ∀ (x : Option Addr), (Builtin.firstCells ti.size 0 (.slice x 0 c2)).run P w = .ok #[] w := by
    intro x; cases x <;> simp [Builtin.firstCells, loadCells, loadCellsFrom]
  cases a <;> simp [Builtin.append_, run_underlying ht, sizeOf, typeInfo, hi, Builtin.lenOf, hn, hf, storeCells]

/-- make([]T, n, c). -/
theorem own_make {size bytes : Nat} (ht : P.underlying t = some (.slice e)) (hi : P.info? e = some ti) (hz : ti.zero = some z) (hsize : ti.size = size) (hby : ti.bytes = bytes)
    (h : Own w0 Im w L) {kl kc : IntKind} {l c : Int} (h0 : 0 ≤ l) (hlc : l ≤ c) (hbytes : (bytes : Int) * c ≤ 281474976710656) (h63 : c ≤ 9223372036854775807) :
    ∃ w', (Instr.makeSlice t (.int kl l) (.int kc c)).run P w = .ok (.slice (some ⟨w.heap.size, 0, none⟩) l.toNat c.toNat) w' ∧
      Own w0 Im w' ((w.heap.size, .cells (madeCells z.cells (c.toNat * size)) e (0, 0)) :: L) := by
  subst hsize hby
  exact ⟨_, run_make w t e ti z ht hi hz kl kc l c h0 hlc hbytes h63, h.alloc _⟩

/-- clear(s[i:]). -/
theorem run_clear_row {size : Nat} (ht : P.underlying t = some (.slice e)) (hi : P.info? e = some ti) (hz : ti.zero = some z) (hzs : z.cells.size = size) (hz1 : ∀ u ∈ z.cells.toList, u.oneCell' = true)
    {g o n c : Nat} {cur : List Value} {T : Nat} (hg : w.heap[g]? = some (.cells cur.toArray T (0, 0))) (hn : 0 < n) (hfit : o + n * size ≤ cur.length) :
    (Builtin.clear_ #[t] ty #[.slice (some ⟨g, o, none⟩) n c]).run P w = .ok (.tuple #[]) (w.setRow g (cur.take o ++ (Builtin.zeroCells z.cells n).toList ++ cur.drop (o + n * size)).toArray) := by
  have hzl : (Builtin.zeroCells z.cells n).toList.length = n * size := by rw [Array.length_toList, size_zeroCells, hzs]
  have h1 : ∀ u ∈ (Builtin.zeroCells z.cells n).toList, u.oneCell' = true := by
    intro u hu
    simp only [Builtin.zeroCells, Array.toList_map, List.mem_map] at hu
    obtain ⟨i, hi2, rfl⟩ := hu
    have hpos : 0 < z.cells.size := by
      rcases Nat.eq_zero_or_pos z.cells.size with h0 | h0
      · rw [h0] at hi2; simp at hi2
      · exact h0
    have hlt := Nat.mod_lt i hpos
    rw [getElem!_pos z.cells (i % z.cells.size) hlt]
    exact hz1 _ (by simp)
  have hst := run_storeCells_at P g o T (Builtin.zeroCells z.cells n).toList 0 cur.toArray w hg (by simpa [hzl] using hfit) h1
  simp only [Nat.add_zero, hzl] at hst
  obtain ⟨m, rfl⟩ : ∃ m, n = m + 1 := ⟨n - 1, by omega⟩
  simp only [Builtin.clear_, List.getElem?_toArray, List.getElem?_cons_zero, Sem.run_bind, run_underlying ht, Result.andThen_ok, zeroValue, typeInfo, run_program, hi, hz, Sem.run_pure, hst]
theorem run_clear_0 (ht : P.underlying t = some (.slice e)) {a : Option Addr} {c : Nat} : (Builtin.clear_ #[t] ty #[.slice a 0 c]).run P w = .ok (.tuple #[]) w := by
  cases a <;> simp [Builtin.clear_, run_underlying ht]
end
end Go.Vc
