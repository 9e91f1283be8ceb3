/-
  Lists of elements that were handed in: held for good.
-/
import Derived.Test.YtmffnjdndhkbhaaVcRead
import Derived.Test.YtmffnjdndhkbhaaVcElem
namespace Go.Vc
open Go
set_option linter.unusedVariables false
/-- The slice a (of l elements, n cells each) reads as xs, for good. -/
def InE {α : Type} (Im : Mem) (f : α → List Value) (n : Nat) (a : Option Addr) (l : Nat) (xs : List α) : Prop :=
  l = xs.length ∧ ∀ i x, xs[i]? = some x → ∃ b o row T z, a = some ⟨b, o, none⟩ ∧ Im b = some (.cells row T z) ∧ ∀ j v, (f x)[j]? = some v → row[o + i * n + j]? = some v
section
variable {α : Type} {f : α → List Value} {n : Nat} {w0 w : World} {Im Im' : Mem} {L : List (Nat × Obj)} {a : Option Addr} {l : Nat} {xs : List α}
theorem InE.len (h : InE Im f n a l xs) : l = xs.length := h.1
theorem InE.mono (hle : Im.le Im') (h : InE Im f n a l xs) : InE Im' f n a l xs :=
  ⟨h.1, fun i x hx => let ⟨b, o, row, T, z, h1, h2, h3⟩ := h.2 i x hx; ⟨b, o, row, T, z, h1, hle _ _ h2, h3⟩⟩
theorem InE.get (hi : InE Im f n a l xs) (h : Own w0 Im w L) {i : Nat} (hl : i < xs.length) : ∃ b o, a = some ⟨b, o, none⟩ ∧ CellsAt w ⟨b, o + i * n, none⟩ (f xs[i]) ∧ ∀ k, k < (f xs[i]).length → w.cell? ⟨b, o + i * n + k, none⟩ = (f xs[i])[k]? := by
  obtain ⟨b, o, row, T, z, h1, h2, h3⟩ := hi.2 i xs[i] (by simp [hl])
  refine ⟨b, o, h1, fun j v hj => ?_, fun k hk => ?_⟩
  · rw [add_none, cell_of (h.im _ _ h2)]; exact h3 j v hj
  · rw [cell_of (h.im _ _ h2), List.getElem?_eq_getElem hk]
    exact h3 k _ (List.getElem?_eq_getElem hk)
theorem inE_of_rd {m : Nat} {e : Sh} {g : Dat e → α} {ys : List (Dat e)} {v : Value} (hws : ∀ x ws, Rd Im e x ws → ws = f (g x)) (h : Rd Im (.sl m e) ys [v]) :
    ∃ a l k, v = .slice a l k ∧ l = ys.length ∧ InE Im f e.size a l (ys.map g) := by
  obtain ⟨a, l, k, hv, hl, _, _, _, hx⟩ := h
  have hv : v = .slice a l k := by simpa using hv
  refine ⟨a, l, k, hv, hl.symm, by simp [hl], fun i op hop => ?_⟩
  rw [List.getElem?_map] at hop
  cases hxi : ys[i]? with
  | none => rw [hxi] at hop; cases hop
  | some x =>
    rw [hxi] at hop
    simp only [Option.map_some, Option.some.injEq] at hop
    subst hop
    obtain ⟨b, o, ws, row, T, z, ea, hwl, hr, hb, hc⟩ := hx i x hxi
    refine ⟨b, o, row, T, z, ea, hb, ?_⟩
    rw [← hws x ws hr]
    exact hc
/-- .. where what is read stands in memory in more than one way. -/
theorem inE_of_rd' {m : Nat} {e : Sh} {Q : Dat e → α → Prop} {ys : List (Dat e)} {v : Value} (hws : ∀ x ws, Rd Im e x ws → ∃ o, ws = f o ∧ Q x o) (h : Rd Im (.sl m e) ys [v]) :
    ∃ a l k, ∃ os : List α, v = .slice a l k ∧ l = ys.length ∧ InE Im f e.size a l os ∧ os.length = ys.length ∧ ∀ i (h : i < ys.length) (h2 : i < os.length), Q ys[i] os[i] := by
  obtain ⟨a, l, k, hv, hl, _, _, _, hx⟩ := h
  have hv : v = .slice a l k := by simpa using hv
  obtain ⟨os, hol, hos⟩ := choose_list (β := α) (p := fun i o => (∃ b off row T z, a = some ⟨b, off, none⟩ ∧ Im b = some (.cells row T z) ∧ ∀ j v, (f o)[j]? = some v → row[off + i * e.size + j]? = some v) ∧ ∀ (h : i < ys.length), Q ys[i] o) ys fun i hi => by
    obtain ⟨b, o, ws, row, T, z, ea, hwl, hr, hb, hc⟩ := hx i ys[i] (by simp [hi])
    obtain ⟨q, hq, hQ⟩ := hws _ _ hr
    exact ⟨q, ⟨b, o, row, T, z, ea, hb, by rw [← hq]; exact hc⟩, fun _ => hQ⟩
  refine ⟨a, l, k, os, hv, hl.symm, ⟨by omega, fun i x hi => ?_⟩, hol, fun i h h2 => ?_⟩
  · exact (hos i x hi).1
  · exact (hos i os[i] (by simp [h2])).2 h
end
end Go.Vc
