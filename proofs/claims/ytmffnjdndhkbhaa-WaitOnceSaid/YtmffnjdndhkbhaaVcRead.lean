/-
  What is handed in, read: shapes of data, a reading of them in what is held for good, the law's last step.
-/
import Derived.Test.YtmffnjdndhkbhaaVcHeap
import Derived.ProofKit
import Derived.OpenShut
import Derived.ChangeSame
import Derived.Deep.Slices
namespace Go.Vc
open Go Go.RowKit Go.ChangeShapes Go.WideShapes
set_option linter.unusedVariables false

inductive Sh where
  | int (k : IntKind)
  | bool
  | str
  | unit
  | cons (a b : Sh)
  | arr (n : Nat) (e : Sh)
  | sl (by_ : Nat) (e : Sh)
def Sh.size : Sh → Nat
  | .int _ | .bool | .str | .sl _ _ => 1
  | .unit => 0
  | .cons a b => a.size + b.size
  | .arr n e => n * e.size
def Sh.one : Sh → Bool
  | .int _ | .bool | .str | .sl _ _ => true
  | _ => false
@[reducible] def Dat : Sh → Type
  | .int _ => Int
  | .bool => Bool
  | .str => ByteArray
  | .unit => Unit
  | .cons a b => Dat a × Dat b
  | .arr _ e => List (Dat e)
  | .sl _ e => List (Dat e)
/-- The cells read as the datum. -/
def Rd (Im : Mem) : (s : Sh) → Dat s → List Value → Prop
  | .int k, n, cs => cs = [.int k n] ∧ (Lit.int k n).wf = true
  | .bool, b, cs => cs = [.bool b]
  | .str, s, cs => cs = [.string s] ∧ s.size ≤ maxLen
  | .unit, _, cs => cs = []
  | .cons a b, x, cs => ∃ c1 c2, cs = c1 ++ c2 ∧ Rd Im a x.1 c1 ∧ Rd Im b x.2 c2
  | .arr n e, xs, cs => xs.length = n ∧ cs.length = n * e.size ∧ ∀ i x, xs[i]? = some x → Rd Im e x ((cs.drop (i * e.size)).take e.size)
  | .sl _ e, xs, cs => ∃ a len cap, cs = [.slice a len cap] ∧ xs.length = len ∧ len ≤ cap ∧ cap ≤ maxLen ∧ (a = none → cap = 0) ∧
      ∀ i x, xs[i]? = some x → ∃ b o ws row T z, a = some ⟨b, o, none⟩ ∧ ws.length = e.size ∧ Rd Im e x ws ∧ Im b = some (.cells row T z) ∧ ∀ j v, ws[j]? = some v → row[o + i * e.size + j]? = some v
/-- How much it is. -/
def bulk : (s : Sh) → Dat s → Nat
  | .int _, _ => 1
  | .bool, _ => 1
  | .str, s => s.size + 1
  | .unit, _ => 0
  | .cons a b, x => bulk a x.1 + bulk b x.2
  | .arr _ e, xs => (xs.map (bulk e)).sum
  | .sl _ e, xs => (xs.map (bulk e)).sum + 1

/-- What the form's own reach says of the sizes. -/
def fit : (s : Sh) → Dat s → Prop
  | .int _, _ => True
  | .bool, _ => True
  | .str, s => s.size ≤ reachBytes
  | .unit, _ => True
  | .cons a b, x => fit a x.1 ∧ fit b x.2
  | .arr _ e, xs => ∀ x ∈ xs, fit e x
  | .sl n e, xs => xs.length * n ≤ reachBytes ∧ ∀ x ∈ xs, fit e x

def chkF (r : TypeId → Sh → Bool) : List Field → Nat → Sh → Bool
  | [], _, .unit => true
  | f :: fs, off, .cons a b => f.offset == off && r f.type a && chkF r fs (off + a.size) b
  | _, _, _ => false
def chk (P : Program) : Nat → TypeId → Sh → Bool
  | 0, _, _ => false
  | k + 1, t, s => P.cellsOf t == s.size && match P.underlying t, s with
    | some .bool, .bool => true
    | some (.int k), .int k' => k == k'
    | some .string, .str => true
    | some (.struct fs), s => chkF (chk P k) fs.toList 0 s
    | some (.array n e), .arr n' e' => n == n' && chk P k e e'
    | some (.slice e), .sl n e' => chk P k e e' && (decide (0 < e'.size) && P.bytesOf e == n)
    | _, _ => false
theorem chk_size {P : Program} {k : Nat} {t : TypeId} {s : Sh} (h : chk P k t s = true) : P.cellsOf t = s.size := by
  cases k with
  | zero => simp [chk] at h
  | succ k =>
    unfold chk at h
    simp only [Bool.and_eq_true, beq_iff_eq] at h
    exact h.1

structure BulkLaw {H : Type} (b : DataW H → Nat) (bs : List (DataW H) → Nat) : Prop where
  str : ∀ l, b (.lit (.string l)) = l.length + 1
  lit : ∀ l, 1 ≤ b (.lit l)
  nil : 1 ≤ b .nil
  agg : ∀ l, bs l ≤ b (.agg l)
  sl : ∀ l m, bs l + 1 ≤ b (.slice l m)
  nil' : bs [] = 0
  cons : ∀ d l, bs (d :: l) = b d + bs l

theorem Rd.len {Im : Mem} : ∀ {s : Sh} {x : Dat s} {cs : List Value}, Rd Im s x cs → cs.length = s.size
  | .int _, _, _, h => by rw [h.1]; rfl
  | .bool, _, _, h => by rw [show _ = _ from h]; rfl
  | .str, _, _, h => by rw [h.1]; rfl
  | .unit, _, _, h => by rw [show _ = _ from h]; rfl
  | .cons a b, _, _, h => by obtain ⟨c1, c2, rfl, h1, h2⟩ := h; rw [List.length_append, h1.len, h2.len]; rfl
  | .arr _ _, _, _, h => h.2.1
  | .sl _ _, _, _, h => by obtain ⟨_, _, _, rfl, _⟩ := h; rfl

section
variable {H : Type} {enc : TypeId × Value → H} {P : Program} {w : World} {base : Nat} {spare : Nat → Bool} {held : Bool} {b : DataW H → Nat} {bs : List (DataW H) → Nat}

theorem rd_fields {r : TypeId → Sh → Bool} (hb : BulkLaw b bs) (hrs : ∀ t s, r t s = true → P.cellsOf t = s.size)
    {n : Nat} (ih : ∀ t s cs x, r t s = true → DataW.trod enc P w base spare held n t cs = some x → ∃ y : Dat s, Rd (fun i => w.heap[i]?) s y cs ∧ bulk s y ≤ b x.1 ∧ ((∀ v ∈ DataW.weights P t x.1, v ≤ reachBytes) → fit s y)) :
    ∀ (fs : List Field) (off : Nat) (s : Sh) (cs : List Value) (xs : List (DataW H × List MemPlace)), chkF r fs off s = true → xs.length = fs.length → off + s.size ≤ cs.length →
      (∀ (i : Nat) (f : Field), fs[i]? = some f → DataW.trod enc P w base spare held n f.type ((cs.drop f.offset).take (P.cellsOf f.type)) = xs[i]?) →
      ∃ y : Dat s, Rd (fun i => w.heap[i]?) s y ((cs.drop off).take s.size) ∧ bulk s y ≤ bs (xs.map (·.1)) ∧ ((∀ v ∈ DataW.weightsEach P (fs.map (·.type)) (xs.map (·.1)), v ≤ reachBytes) → fit s y)
  | [], off, .unit, cs, xs, _, _, _, _ => ⟨(), by simp [Sh.size, Rd], by simp [bulk], fun _ => trivial⟩
  | f :: fs, off, .cons a c, cs, xs, h, hl, hlen, hx => by
    simp only [chkF, Bool.and_eq_true, beq_iff_eq] at h
    obtain ⟨⟨h1, h2⟩, h3⟩ := h
    match xs, hl with
    | x :: xs, hl =>
      have h0 := hx 0 f rfl
      rw [h1, hrs _ _ h2] at h0
      simp only [Sh.size] at hlen
      obtain ⟨y1, r1, b1, f1⟩ := ih _ _ _ _ h2 h0
      obtain ⟨y2, r2, b2, f2⟩ := rd_fields hb hrs ih fs (off + a.size) c cs xs h3 (by simpa using hl) (by omega) (fun i g hg => hx (i + 1) g hg)
      refine ⟨(y1, y2), ⟨_, _, ?_, r1, r2⟩, ?_, fun hv => ?_⟩
      · show (cs.drop off).take (a.size + c.size) = _
        rw [List.take_add, List.drop_drop]
      · show bulk a y1 + bulk c y2 ≤ _
        rw [List.map_cons, hb.cons]; omega
      · simp only [List.map_cons, DataW.weightsEach, List.mem_append] at hv
        exact ⟨f1 fun v h => hv v (.inl h), f2 fun v h => hv v (.inr h)⟩
  | [], _, .int _, _, _, h, _, _, _ => by simp [chkF] at h
  | [], _, .bool, _, _, h, _, _, _ => by simp [chkF] at h
  | [], _, .str, _, _, h, _, _, _ => by simp [chkF] at h
  | [], _, .cons _ _, _, _, h, _, _, _ => by simp [chkF] at h
  | [], _, .arr _ _, _, _, h, _, _, _ => by simp [chkF] at h
  | [], _, .sl _ _, _, _, h, _, _, _ => by simp [chkF] at h
  | _ :: _, _, .int _, _, _, h, _, _, _ => by simp [chkF] at h
  | _ :: _, _, .bool, _, _, h, _, _, _ => by simp [chkF] at h
  | _ :: _, _, .str, _, _, h, _, _, _ => by simp [chkF] at h
  | _ :: _, _, .unit, _, _, h, _, _, _ => by simp [chkF] at h
  | _ :: _, _, .arr _ _, _, _, h, _, _, _ => by simp [chkF] at h
  | _ :: _, _, .sl _ _, _, _, h, _, _, _ => by simp [chkF] at h

theorem choose_list {α β : Type} (l : List α) {p : Nat → β → Prop} (h : ∀ i, i < l.length → ∃ y, p i y) : ∃ ys : List β, ys.length = l.length ∧ ∀ i y, ys[i]? = some y → p i y := by
  induction l generalizing p with
  | nil => exact ⟨[], rfl, fun i y h => by simp at h⟩
  | cons a l ih =>
    obtain ⟨y, hy⟩ := h 0 (by simp)
    obtain ⟨ys, hl, hys⟩ := ih (p := fun i => p (i + 1)) fun i hi => h (i + 1) (by simpa using hi)
    refine ⟨y :: ys, by simp [hl], fun i z hz => ?_⟩
    cases i with
    | zero => simp at hz; subst hz; exact hy
    | succ i => exact hys i z (by simpa using hz)

theorem sum_le (hb : BulkLaw b bs) {β : Type} (f : β → Nat) : ∀ (ys : List β) (ds : List (DataW H)), ys.length = ds.length → (∀ (i : Nat) (y : β) (d : DataW H), ys[i]? = some y → ds[i]? = some d → f y ≤ b d) → (ys.map f).sum ≤ bs ds
  | [], [], _, _ => by simp
  | y :: ys, d :: ds, hl, h => by
    have h0 := h 0 y d rfl rfl
    have := sum_le hb f ys ds (by simpa using hl) fun i y' d' h1 h2 => h (i + 1) y' d' (by simpa using h1) (by simpa using h2)
    rw [List.map_cons, List.sum_cons, hb.cons]; omega
  | [], _ :: _, hl, _ => by simp at hl
  | _ :: _, [], hl, _ => by simp at hl

theorem fit_all {e : TypeId} {e' : Sh} : ∀ {ys : List (Dat e')} {ds : List (DataW H)}, ys.length = ds.length → (∀ (i : Nat) (y : Dat e') (d : DataW H), ys[i]? = some y → ds[i]? = some d → (∀ v ∈ DataW.weights P e d, v ≤ reachBytes) → fit e' y) →
    (∀ v ∈ DataW.weightsAll P e ds, v ≤ reachBytes) → ∀ y ∈ ys, fit e' y
  | [], [], _, _, _ => fun y hy => by cases hy
  | y :: ys, d :: ds, hl, h, hv => fun z hz => by
    simp only [DataW.weightsAll, List.mem_append] at hv
    rcases List.mem_cons.1 hz with rfl | hz
    · exact h 0 _ d rfl rfl fun v hv' => hv v (.inl hv')
    · exact fit_all (ys := ys) (ds := ds) (by simpa using hl) (fun i y d h1 h2 => h (i + 1) y d (by simpa using h1) (by simpa using h2)) (fun v h => hv v (.inr h)) z hz
  | [], _ :: _, hl, _, _ => by simp at hl
  | _ :: _, [], hl, _, _ => by simp at hl

/-- What is read is of its shape. -/
theorem rd_of (hb : BulkLaw b bs) : ∀ (k : Nat) (n : Nat) (t : TypeId) (s : Sh) (cs : List Value) (x : DataW H × List MemPlace), chk P k t s = true → DataW.trod enc P w base spare held n t cs = some x →
    ∃ y : Dat s, Rd (fun i => w.heap[i]?) s y cs ∧ bulk s y ≤ b x.1 ∧ ((∀ v ∈ DataW.weights P t x.1, v ≤ reachBytes) → fit s y)
  | 0, _, _, _, _, _, h, _ => by simp [chk] at h
  | k + 1, n, t, s, cs, x, h, hx => by
    have hsz := chk_size h
    unfold chk at h
    simp only [Bool.and_eq_true, beq_iff_eq] at h
    have h2 := h.2
    cases hu : P.underlying t with
    | none => rw [hu] at h2; simp at h2
    | some u =>
      rw [hu] at h2
      cases u with
      | bool =>
        cases s <;> simp at h2
        obtain ⟨v, rfl, rfl⟩ := DataW.trod_bool hu hx
        exact ⟨v, rfl, hb.lit _, fun _ => trivial⟩
      | int kd =>
        cases s <;> simp at h2
        subst h2
        obtain ⟨v, rfl, rfl, hw⟩ := DataW.trod_int hu hx
        exact ⟨v, ⟨rfl, hw⟩, hb.lit _, fun _ => trivial⟩
      | string =>
        cases s <;> simp at h2
        obtain ⟨v, rfl, rfl, hw⟩ := DataW.trod_string hu hx
        refine ⟨v, ⟨rfl, hw⟩, ?_, fun hv => ?_⟩
        · show v.size + 1 ≤ b (.lit (.string v.data.toList))
          rw [hb.str, Array.length_toList]
          exact Nat.le_refl _
        · have := hv v.data.toList.length (by simp [DataW.weights])
          rw [Array.length_toList] at this
          exact this
      | struct fs =>
        obtain ⟨xs, m, rfl, rfl, hl, hxl, hf⟩ := DataW.trod_struct hu hx
        have h2' : chkF (chk P k) fs.toList 0 s = true := by
          cases s <;> exact h2
        obtain ⟨y, hy, hbk, hft⟩ := rd_fields (w := w) (base := base) (spare := spare) (held := held) (enc := enc) hb (fun _ _ h => chk_size h) (fun t s cs x h hx => rd_of hb k m t s cs x h hx) fs.toList 0 s cs xs h2' (by simpa using hxl) (by omega) (fun i f hif => hf i f (by simpa using hif))
        refine ⟨y, ?_, Nat.le_trans hbk (hb.agg _), fun hv => hft fun v h => hv v (by simp only [DataW.weights, hu]; exact h)⟩
        rw [List.drop_zero, List.take_of_length_le (by omega)] at hy
        exact hy
      | array n e =>
        cases s <;> simp at h2
        rename_i n' e'
        obtain ⟨rfl, he⟩ := h2
        obtain ⟨xs, m, rfl, rfl, hl, hxl, hf⟩ := DataW.trod_array hu hx
        have hse := chk_size he
        obtain ⟨ys, hyl, hys⟩ := choose_list (β := Dat e') (p := fun i y => Rd (fun i => w.heap[i]?) e' y ((cs.drop (i * e'.size)).take e'.size) ∧ ∀ d, (xs.map (·.1))[i]? = some d → bulk e' y ≤ b d ∧ ((∀ v ∈ DataW.weights P e d, v ≤ reachBytes) → fit e' y)) xs fun i hi => by
          have hi' := hf i (by omega)
          rw [List.getElem?_eq_getElem hi, hse] at hi'
          obtain ⟨y, h1, h2⟩ := rd_of hb k m e e' _ _ he hi'
          exact ⟨y, h1, fun d hd => by rw [List.getElem?_map, List.getElem?_eq_getElem hi] at hd; simp at hd; rw [← hd]; exact h2⟩
        refine ⟨ys, ⟨by omega, hl.trans hsz, fun i y hy => (hys i y hy).1⟩, ?_, fun hv => fit_all (hyl.trans (by simp)) (fun i y d h1 h2 => ((hys i y h1).2 d h2).2) fun v h => hv v (by simp only [DataW.weights, hu]; exact h)⟩
        exact Nat.le_trans (sum_le hb (bulk e') ys (xs.map (·.1)) (by simp [hyl]) fun i y d hy hd => ((hys i y hy).2 d hd).1) (hb.agg _)
      | slice e =>
        cases s <;> simp at h2
        rename_i nb e'
        obtain ⟨h2, hpos, hby⟩ := h2
        have hse := chk_size h2
        rcases DataW.trod_slice hu hx with ⟨rfl, rfl⟩ | ⟨a, len, cap, elems, rest, m, rfl, rfl, rfl, hba, hlc, hcm, hel, hget, _, _⟩
        · exact ⟨[], ⟨none, 0, 0, rfl, rfl, by omega, by simp, fun _ => rfl, fun i x h => by simp at h⟩, by simpa [bulk] using hb.nil, fun _ => ⟨by simp, fun x hx => by cases hx⟩⟩
        · obtain ⟨ys, hyl, hys⟩ := choose_list (β := Dat e') (p := fun i y => (∃ bb o ws row T z, some a = some ⟨bb, o, none⟩ ∧ ws.length = e'.size ∧ Rd (fun i => w.heap[i]?) e' y ws ∧ w.heap[bb]? = some (.cells row T z) ∧ ∀ j v, ws[j]? = some v → row[o + i * e'.size + j]? = some v) ∧ ∀ d, (elems.map (·.1))[i]? = some d → bulk e' y ≤ b d ∧ ((∀ v ∈ DataW.weights P e d, v ≤ reachBytes) → fit e' y)) elems fun i hi => by
            have hi' := hget i (by omega)
            rw [List.getElem?_eq_getElem hi, hse] at hi'
            obtain ⟨ws, hw1, hw2⟩ := Option.bind_eq_some_iff.1 hi'
            obtain ⟨y, h1, h3⟩ := rd_of hb k m e e' _ _ h2 hw2
            obtain ⟨_, hwl, hwc⟩ := World.cells?_some hw1
            have hc : ∀ j v, ws[j]? = some v → w.cell? ((a.add (i * e'.size)).add j) = some v := fun j v hj => by
              have hjl : j < e'.size := by rw [← hwl]; exact (List.getElem?_eq_some_iff.1 hj).1
              rw [hwc j hjl, hj]
            have hspot : a.spot = none := by
              have hi0 := hget 0 (by omega)
              rw [List.getElem?_eq_getElem (by omega), hse] at hi0
              obtain ⟨ws0, hw01, _⟩ := Option.bind_eq_some_iff.1 hi0
              obtain ⟨_, hwl0, hwc0⟩ := World.cells?_some hw01
              have h00 := hwc0 0 hpos
              rw [List.getElem?_eq_getElem (by omega), Nat.zero_mul] at h00
              have e0 : (a.add 0).add 0 = a := by simp [Addr.add]
              rw [e0] at h00
              unfold World.cell? at h00
              split at h00
              · split at h00
                · cases h00
                · rename_i hs; simpa using hs
              · cases h00
            obtain ⟨bb, o, sp⟩ := a
            obtain rfl : sp = none := hspot
            have h00 := hc 0 (ws[0]'(by omega)) (by simp)
            rw [add_none, add_none] at h00
            obtain ⟨row, T, z, hrow⟩ : ∃ row T z, w.heap[bb]? = some (.cells row T z) := by
              unfold World.cell? at h00
              split at h00
              · exact ⟨_, _, _, by assumption⟩
              · cases h00
            refine ⟨y, ⟨bb, o, ws, row, T, z, rfl, hwl, h1, hrow, fun j v hj => ?_⟩, fun d hd => by rw [List.getElem?_map, List.getElem?_eq_getElem hi] at hd; simp at hd; rw [← hd]; exact h3⟩
            have := hc j v hj
            rw [add_none, add_none, cell_of hrow] at this
            exact this
          refine ⟨ys, ⟨some a, len, cap, rfl, by omega, hlc, hcm, fun e => (by cases e), fun i y hy => (hys i y hy).1⟩, ?_, fun hv => ?_⟩
          rotate_left
          · simp only [DataW.weights, hu] at hv
            refine ⟨?_, fit_all (hyl.trans (by simp)) (fun i y d h1 h2 => ((hys i y h1).2 d h2).2) fun v h => hv v (by simp [h])⟩
            have h0 := hv _ (List.mem_cons_self ..)
            rw [hby, List.length_map, List.length_map] at h0
            rw [hyl]
            exact Nat.le_trans (Nat.mul_le_mul_right _ (Nat.le_add_right _ _)) h0
          have := sum_le hb (bulk e') ys (elems.map (·.1)) (by simp [hyl]) fun i y d hy hd => ((hys i y hy).2 d hd).1
          have h3 := hb.sl (elems.map (·.1)) (rest.map (·.1))
          exact Nat.le_trans (Nat.succ_le_succ this) h3
      | _ => cases s <;> simp at h2

def RdArg (Im : Mem) (s : Sh) (x : Dat s) (v : Value) : Prop := if s.one = true then Rd Im s x [v] else ∃ cs, v = .agg cs.toArray ∧ Rd Im s x cs
def RdArgs (Im : Mem) : (s : Sh) → Dat s → List Value → Prop
  | .unit, _, vs => vs = []
  | .cons a b, x, vs => ∃ v vr, vs = v :: vr ∧ RdArg Im a x.1 v ∧ RdArgs Im b x.2 vr
  | _, _, _ => False
def chkArgs (P : Program) (k : Nat) : List TypeId → Sh → Bool
  | [], .unit => true
  | t :: ts, .cons a b => chk P k t a && chkArgs P k ts b
  | _, _ => false

theorem arg_form {k : Nat} {t : TypeId} {s : Sh} {v : Value} {x : Dat s} {Im : Mem} {r : Reach} (hc : chk P k t s = true) (ho : Value.okWide P w r base t v) (hr : Rd Im s x v.cells.toList) : RdArg Im s x v := by
  cases k with
  | zero => simp [chk] at hc
  | succ k =>
    unfold chk at hc
    simp only [Bool.and_eq_true, beq_iff_eq] at hc
    have h2 := hc.2
    unfold RdArg
    cases hu : P.underlying t with
    | none => rw [hu] at h2; simp at h2
    | some u =>
      rw [hu] at h2
      cases u with
      | bool =>
        cases s <;> simp at h2
        obtain ⟨b, rfl⟩ := okWide_bool hu ho
        exact hr
      | int kd =>
        cases s <;> simp at h2
        obtain ⟨b, rfl⟩ := okWide_int hu ho
        exact hr
      | string =>
        cases s <;> simp at h2
        obtain ⟨b, rfl⟩ := okWide_string hu ho
        exact hr
      | slice e =>
        cases s <;> simp at h2
        obtain ⟨a, l, c, rfl⟩ := okWide_slice hu ho
        exact hr
      | struct fs =>
        have h2' : chkF (chk P k) fs.toList 0 s = true := by cases s <;> exact h2
        have hone : s.one ≠ true := by
          cases s <;> first | (simp [Sh.one]; done) | (exfalso; revert h2'; cases fs.toList <;> simp [chkF])
        rw [if_neg hone]
        simp only [Value.okWide, hu] at ho
        obtain ⟨cs, rfl, _⟩ := ho
        exact ⟨cs.toList, by simp, hr⟩
      | array n e =>
        cases s <;> simp at h2
        simp only [Value.okWide, hu] at ho
        obtain ⟨cs, rfl, _⟩ := ho
        rw [if_neg (by simp [Sh.one])]
        exact ⟨cs.toList, by simp, hr⟩
      | _ => cases s <;> simp at h2

theorem rd_args (hb : BulkLaw b bs) {k : Nat} {r : Reach} : ∀ (ts : List TypeId) (vs : List Value) (ds : List (DataW H)) (ps : List MemPlace) (S : Sh), chkArgs P k ts S = true → (∀ (j : Nat) (t : TypeId) (v : Value), ts[j]? = some t → vs[j]? = some v → Value.okWide P w r base t v) →
    DataW.TrodAll enc P w 0 spare held ts vs ds ps → ∃ y : Dat S, RdArgs (fun i => w.heap[i]?) S y vs ∧ bulk S y ≤ bs ds ∧ ((∀ v ∈ DataW.weightsEach P ts ds, v ≤ reachBytes) → fit S y)
  | [], [], [], _, .unit, _, _, _ => ⟨(), rfl, by simp [bulk], fun _ => trivial⟩
  | t :: ts, v :: vs, d :: ds, ps, .cons a c, h, hv, ht => by
    simp only [chkArgs, Bool.and_eq_true] at h
    obtain ⟨p, q, ⟨n, h1⟩, h2, rfl⟩ := ht
    obtain ⟨y1, r1, b1, f1⟩ := rd_of hb k n t a _ _ h.1 h1
    obtain ⟨y2, r2, b2, f2⟩ := rd_args hb ts vs ds q c h.2 (fun j t v h1 h2 => hv (j + 1) t v h1 h2) h2
    refine ⟨(y1, y2), ⟨v, vs, rfl, arg_form h.1 (hv 0 t v rfl rfl) r1, r2⟩, ?_, fun hv => ?_⟩
    · show bulk a y1 + bulk c y2 ≤ _
      rw [hb.cons]
      have : bulk a y1 ≤ b d := b1
      omega
    · simp only [DataW.weightsEach, List.mem_append] at hv
      exact ⟨f1 fun v h => hv v (.inl h), f2 fun v h => hv v (.inr h)⟩
  | [], _ :: _, _, _, _, _, _, ht => ht.elim
  | _ :: _, [], _, _, _, _, _, ht => ht.elim
  | [], [], _ :: _, _, _, _, _, ht => ht.elim
  | _ :: _, _ :: _, [], _, _, _, _, ht => ht.elim
  | _ :: _, _ :: _, _ :: _, _, .unit, h, _, _ => by simp [chkArgs] at h
  | _ :: _, _ :: _, _ :: _, _, .int _, h, _, _ => by simp [chkArgs] at h
  | _ :: _, _ :: _, _ :: _, _, .bool, h, _, _ => by simp [chkArgs] at h
  | _ :: _, _ :: _, _ :: _, _, .str, h, _, _ => by simp [chkArgs] at h
  | _ :: _, _ :: _, _ :: _, _, .arr _ _, h, _, _ => by simp [chkArgs] at h
  | _ :: _, _ :: _, _ :: _, _, .sl _ _, h, _, _ => by simp [chkArgs] at h
  | [], [], [], _, .cons _ _, h, _, _ => by simp [chkArgs] at h
  | [], [], [], _, .int _, h, _, _ => by simp [chkArgs] at h
  | [], [], [], _, .bool, h, _, _ => by simp [chkArgs] at h
  | [], [], [], _, .str, h, _, _ => by simp [chkArgs] at h
  | [], [], [], _, .arr _ _, h, _, _ => by simp [chkArgs] at h
  | [], [], [], _, .sl _ _, h, _, _ => by simp [chkArgs] at h
end

section
variable {H : Type} {enc : TypeId × Value → H} {P : Program}
/-- All arguments read as they did. -/
theorem trodAll_below (hl : laidOutB P = true) {W W' : World} (hb : Below W.heap.size W W') : ∀ {ts : List TypeId} {vs : List Value} {ds : List (DataW H)} {ps : List MemPlace}, (∀ t ∈ ts, P.readableRec t = true ∧ t < P.types.size) →
    DataW.TrodAll enc P W 0 (fun _ => true) true ts vs ds ps → (∀ x ∈ ps, x.block < W.heap.size) → DataW.TrodAll enc P W' 0 (fun b => decide (b < W.heap.size)) true ts vs ds ps
  | [], [], [], _, _, h, _ => h
  | t :: ts, v :: vs, d :: ds, ps, hr, h, hlt => by
    obtain ⟨p, q, h1, h2, rfl⟩ := h
    exact ⟨p, q, Below.trod hl (hr t (by simp)).1 (hr t (by simp)).2 h1 hb (fun x hx => hlt x (by simp [hx])), trodAll_below hl hb (fun t ht => hr t (by simp [ht])) h2 (fun x hx => hlt x (by simp [hx])), rfl⟩
  | [], _ :: _, _, _, _, h, _ => h.elim
  | _ :: _, [], _, _, _, h, _ => h.elim
  | [], [], _ :: _, _, _, h, _ => h.elim
  | _ :: _, _ :: _, [], _, _, h, _ => h.elim

theorem trodAll_whole (hl : laidOutB P = true) {W W' : World} (hb : Below W.heap.size W W') : ∀ {ts : List TypeId} {vs : List Value} {ds : List (DataW H)} {ps : List MemPlace}, (∀ t ∈ ts, P.readableRec t = true ∧ t < P.types.size) →
    DataW.TrodAll enc P W 0 (fun _ => true) true ts vs ds ps → (∀ x ∈ ps, x.block < W.heap.size) → DataW.TrodAll enc P W' 0 (fun _ => true) true ts vs ds ps
  | [], [], [], _, _, h, _ => h
  | t :: ts, v :: vs, d :: ds, ps, hr, h, hlt => by
    obtain ⟨p, q, h1, h2, rfl⟩ := h
    exact ⟨p, q, WideElems.Trod_stays hl (hr t (by simp)).1 (hr t (by simp)).2 h1 (fun x hx => hb.same (hlt x (by simp [hx]))) (fun x hx => rfl), trodAll_whole hl hb (fun t ht => hr t (by simp [ht])) h2 (fun x hx => hlt x (by simp [hx])), rfl⟩
  | [], _ :: _, _, _, _, h, _ => h.elim
  | _ :: _, [], _, _, _, h, _ => h.elim
  | [], [], _ :: _, _, _, h, _ => h.elim
  | _ :: _, _ :: _, [], _, _, h, _ => h.elim

/-- THE LAST STEP: true, and nothing below turned. -/
theorem post_of_below {f : Func} {s : ChangeSpec} {apart fresh handsOn again : Bool} {W W' : World} {args : Array Value} {ds gs : List (DataW H)} {before : List MemPlace} {tb : TypeId}
    (hl : laidOutB P = true) (hpar : ∀ t ∈ f.params.toList, P.readableRec t = true ∧ t < P.types.size) (hvs : s.vars = []) (hres : f.resultTypes = #[tb]) (htb : P.underlying tb = some .bool)
    (hfn : ∀ gs, gs = [] → s.fn H (ds ++ gs) = { results := [.lit (.bool true)], args := ds })
    (hW : DataW.Whole enc P f.params.toList s.vars apart W args.toList ds gs before) (hb : Below W.heap.size W W') :
    s.post enc P f apart fresh handsOn again W args (.bool true) W' := by
  have hlt : ∀ p ∈ before, p.block < W.heap.size := fun p hp => hW.lt p hp
  have hW0 := hW
  obtain ⟨p, q, hA, hV, rfl, hz, hn⟩ := hW0
  rw [hvs] at hV
  obtain ⟨rfl, rfl⟩ := trodVars_none hV
  have hf := hfn [] rfl
  have hltp : ∀ x ∈ p, x.block < W.heap.size := fun x hx => hlt x (by simp [hx])
  have hr : ∀ (b : Nat) (sp : Nat → Bool) (hd : Bool), DataW.TrodAll enc P W' b sp hd f.resultTypes.toList ((Value.bool true).resultList f.resultTypes.size) [.lit (.bool true)] [] := by
    intro b sp hd
    rw [hres]
    exact trodAll_cons_mk (shut_bool htb _) trodAll_mk0
  refine ⟨ds, [], p ++ [], [], p, [], hW, ?_, ?_, ?_, hb.frame _, fun _ => ⟨?_, [.lit (.bool true)] ++ ds, [], [] ++ p ++ [], ⟨[] ++ p, [], ?_, ?_, rfl, ?_, ?_⟩, ?_⟩⟩
  · rw [hf]; exact hr _ _ _
  · rw [hf]; exact trodAll_below hl hb hpar hA hltp
  · rw [hf, hvs]; exact rfl
  · exact ok_one hres rfl (okWide_bool_mk htb _)
  · exact trodAll_append (trodAll_whole hl hb hpar hA hltp) (hr _ _ _)
  · rw [hvs]; exact rfl
  · intro b off hp
    have hp' : MemPlace.cell b off ∈ p := by simpa using hp
    rw [hb.frozen (hltp _ hp')]
    exact hz b off (by simpa using hp')
  · intro ha
    simpa using hn ha
  · intro x hx _
    simpa using hx

/-- The contract of a law that says true and hands back what it got. -/
theorem contract_of {f : FuncId} {fn : Func} {s : ChangeSpec} {apart fresh handsOn again : Bool} {W : World} {base : Nat} {args : Array Value} {ds gs : List (DataW H)} {before : List MemPlace} {tb : TypeId} {S : Sh} {k : Nat}
    {b : DataW H → Nat} {bs : List (DataW H) → Nat} (hbl : BulkLaw b bs)
    (hl : laidOutB P = true) (hpar : ∀ t ∈ fn.params.toList, P.readableRec t = true ∧ t < P.types.size) (hvs : s.vars = []) (hres : fn.resultTypes = #[tb]) (htb : P.underlying tb = some .bool)
    (hfn : ∀ gs, gs = [] → ds.length = fn.params.size → s.fn H (ds ++ gs) = { results := [.lit (.bool true)], args := ds }) (hS : chkArgs P k fn.params.toList S = true)
    (hval : ∀ (j : Nat) t v, fn.params[j]? = some t → args[j]? = some v → Value.okWide P W .any base t v)
    (hW : DataW.Whole enc P fn.params.toList s.vars apart W args.toList ds gs before)
    (walk : ∀ y : Dat S, RdArgs (fun i => W.heap[i]?) S y args.toList → bulk S y ≤ bs ds → ((∀ v ∈ DataW.weightsEach P fn.params.toList ds, v ≤ reachBytes) → fit S y) →
      Calls P f args W fun e W' => e = .returned (.bool true) ∧ Below W.heap.size W W') :
    Calls P f args W fun e W' => ∃ v, e = .returned v ∧ s.post enc P fn apart fresh handsOn again W args v W' := by
  obtain ⟨p, q, hA, hV, rfl, hz, hn⟩ := hW
  have hlen : ∀ {ts : List TypeId} {vs : List Value} {ds : List (DataW H)} {ps : List MemPlace}, DataW.TrodAll enc P W 0 (fun _ => true) true ts vs ds ps → ds.length = ts.length := by
    intro ts
    induction ts with
    | nil => intro vs ds ps h; match vs, ds, h with | [], [], _ => rfl
    | cons t ts ih => intro vs ds ps h; match vs, ds, h with | v :: vs, d :: ds, ⟨_, _, _, h2, _⟩ => simp [ih h2]
  obtain ⟨y, h1, h2, h3⟩ := rd_args hbl (P := P) (w := W) (base := base) fn.params.toList args.toList ds p S hS (fun j t v h1 h2 => hval j t v (by simpa using h1) (by simpa using h2)) hA
  refine (walk y h1 h2 h3).mono fun e W' ⟨he, hb⟩ => ⟨_, he, ?_⟩
  exact post_of_below hl hpar hvs hres htb (fun gs hg => hfn gs hg (by simpa using hlen hA)) ⟨p, q, hA, hV, rfl, hz, hn⟩ hb

mutual
def mass : DataW H → Nat
  | .lit (.string l) => l.length + 1
  | .agg ps => massAll ps + 1
  | .slice es _ => massAll es + 1
  | _ => 1
def massAll : List (DataW H) → Nat
  | [] => 0
  | d :: r => mass d + massAll r
end
theorem massLaw : BulkLaw (H := H) mass massAll where
  str l := by simp [mass]
  lit l := by cases l <;> simp [mass]
  nil := by simp [mass]
  agg l := by simp [mass]
  sl l m := by simp [mass]
  nil' := by simp [massAll]
  cons d l := by simp [massAll]

/-- .. with the form's own reach: each slice fits into a machine's addresses. -/
theorem contract_sized {f : FuncId} {fn : Func} {s : ChangeSpec} {apart fresh handsOn again : Bool} {W : World} {base : Nat} {args : Array Value} {ds gs : List (DataW H)} {before : List MemPlace} {tb : TypeId} {S : Sh} {k : Nat}
    (hl : laidOutB P = true) (hpar : ∀ t ∈ fn.params.toList, P.readableRec t = true ∧ t < P.types.size) (hvs : s.vars = []) (hvt : s.plain.varTypes P = []) (hres : fn.resultTypes = #[tb]) (htb : P.underlying tb = some .bool)
    (hfn : ∀ gs, gs = [] → ds.length = fn.params.size → s.fn H (ds ++ gs) = { results := [.lit (.bool true)], args := ds }) (hS : chkArgs P k fn.params.toList S = true)
    (hval : ∀ (j : Nat) t v, fn.params[j]? = some t → args[j]? = some v → Value.okWide P W .any base t v)
    (hW : DataW.Whole enc P fn.params.toList s.vars apart W args.toList ds gs before)
    (hwt : (DataW.weightsEach P (fn.params.toList ++ s.plain.varTypes P) (ds ++ gs)).all (· ≤ reachBytes) = true)
    (walk : ∀ y : Dat S, RdArgs (fun i => W.heap[i]?) S y args.toList → fit S y → Calls P f args W fun e W' => e = .returned (.bool true) ∧ Below W.heap.size W W') :
    Calls P f args W fun e W' => ∃ v, e = .returned v ∧ s.post enc P fn apart fresh handsOn again W args v W' := by
  have hgs : gs = [] := by
    obtain ⟨_, _, _, hV, _⟩ := hW
    rw [hvs] at hV
    exact (trodVars_none hV).1
  refine contract_of massLaw hl hpar hvs hres htb hfn hS hval hW fun y hr _ hf => walk y hr (hf ?_)
  rw [hvt, hgs, List.append_nil, List.append_nil] at hwt
  intro v hv
  simpa using List.all_eq_true.1 hwt v hv
end
end Go.Vc
