/-
  What each kind of operation comes to, its operands' values given.
-/
import Derived.Test.YtmffnjdndhkbhaaVcBase
namespace Go.Vc
open Go

/-- An operation's inner run. -/
def RunsTo (P : Program) (s : Sem Value) (w : World) (K : Value → World → Prop) : Prop := ∃ v w', s.run P w = .ok v w' ∧ K v w'
def RunsU (P : Program) (s : Sem Unit) (w : World) (K : World → Prop) : Prop := ∃ w', s.run P w = .ok () w' ∧ K w'

def _root_.Go.World.heapSize (w : World) : Nat := w.heap.size

theorem ndec_t {p : Prop} [Decidable p] (h : ¬ p) : (!decide p) = true := by rw [decide_eq_false h]; rfl
theorem ndec_f {p : Prop} [Decidable p] (h : p) : (!decide p) = false := by rw [decide_eq_true h]; rfl
theorem isn_t {α : Type} {p : Option α} (h : p = none) : p.isNone = true := by subst h; rfl
theorem isn_f {α : Type} {p : Option α} (h : p ≠ none) : p.isNone = false := by cases p with | none => exact absurd rfl h | some _ => rfl
theorem nisn_t {α : Type} {p : Option α} (h : p ≠ none) : (!p.isNone) = true := by rw [isn_f h]; rfl
theorem nisn_f {α : Type} {p : Option α} (h : p = none) : (!p.isNone) = false := by rw [isn_t h]; rfl
theorem and_keep {a b : Prop} (ha : a) (h : a → b) : a ∧ b := ⟨ha, h ha⟩
theorem forall_mem2 {p : Nat → Prop} {a b : Nat} (ha : p a) (hb : p b) : ∀ i ∈ [a, b], p i := by
  intro i hi; simp only [List.mem_cons, List.not_mem_nil, or_false] at hi; rcases hi with rfl | rfl <;> assumption
theorem forall_mem3 {p : Nat → Prop} {a b c : Nat} (ha : p a) (hb : p b) (hc : p c) : ∀ i ∈ [a, b, c], p i := by
  intro i hi; simp only [List.mem_cons, List.not_mem_nil, or_false] at hi; rcases hi with rfl | rfl | rfl <;> assumption
theorem forall_mem4 {p : Nat → Prop} {a b c d : Nat} (ha : p a) (hb : p b) (hc : p c) (hd : p d) : ∀ i ∈ [a, b, c, d], p i := by
  intro i hi; simp only [List.mem_cons, List.not_mem_nil, or_false] at hi; rcases hi with rfl | rfl | rfl | rfl <;> assumption
theorem start_keep {P : Program} {ops : Array Oper} {Q : Exit → Act → World → Prop} {CH : List Nat} {k n : Nat} {l : Array Bool} {f : Nat → Value} {w : World} (h : SS ops CH [] l w → WS P ops Q CH [] k l n f w) : WS P ops Q CH [] k l n f w := h SS_init
theorem SS_mono {ops : Array Oper} {CH : List Nat} {LD : List (Nat × (World → Prop))} {l : Array Bool} {i : Nat} {w : World} (h : SS ops CH LD l w) : SS ops CH LD (l.setIfInBounds i true) w := by
  intro p hp ha
  refine h p hp ?_
  unfold act at *
  refine List.all_eq_true.2 fun j hj => ?_
  have h2 := List.all_eq_true.1 ha j hj
  cases hl : l.getD j false with
  | false => rfl
  | true => rw [getD_set_true hl] at h2; exact h2

section
variable {P : Program} {w : World} {ρ : Operand → Value} {dst : Option Nat} {ty : Nat} {pos : String} {aft : Array Edge} {g : Option (Nat × Bool)}
variable {x y z : Operand}

theorem y_move {v : Value} (hx : ρ x = v) : (execOp ρ ⟨dst, .move x, ty, pos, aft, g⟩).run P w = .ok (.value v) w := by subst hx; rfl
theorem y_assign {v : Value} (hx : ρ x = v) : (execOp ρ ⟨dst, .assign x, ty, pos, aft, g⟩).run P w = .ok (.value v) w := by subst hx; rfl
theorem y_pick_t {a b : Operand} {v : Value} (hx : ρ x = .bool true) (ha : ρ a = v) : (execOp ρ ⟨dst, .pick x a b, ty, pos, aft, g⟩).run P w = .ok (.value v) w := by
  subst ha; simp [execOp, hx, asBool]
theorem y_pick_f {a b : Operand} {v : Value} (hx : ρ x = .bool false) (hb : ρ b = v) : (execOp ρ ⟨dst, .pick x a b, ty, pos, aft, g⟩).run P w = .ok (.value v) w := by
  subst hb; simp [execOp, hx, asBool]
theorem y_nilCheck {a : Addr} (hx : ρ x = .pointer (some a)) : (execOp ρ ⟨dst, .nilCheck x, ty, pos, aft, g⟩).run P w = .ok (.value (.pointer (some a))) w := by
  simp [execOp, hx]
theorem y_not {b : Bool} {t : Nat} (hx : ρ x = .bool b) : (execOp ρ ⟨dst, .unOp .not t x, ty, pos, aft, g⟩).run P w = .ok (.value (.bool !b)) w := by
  simp [execOp, hx, Op.unary]
theorem y_not_t {t : Nat} (hx : ρ x = .bool true) : (execOp ρ ⟨dst, .unOp .not t x, ty, pos, aft, g⟩).run P w = .ok (.value (.bool false)) w := y_not hx
theorem y_not_f {t : Nat} (hx : ρ x = .bool false) : (execOp ρ ⟨dst, .unOp .not t x, ty, pos, aft, g⟩).run P w = .ok (.value (.bool true)) w := y_not hx
theorem y_neg {k : IntKind} {a r : Int} {t : Nat} (hx : ρ x = .int k a) (hr : r = k.wrap (0 - a)) : (execOp ρ ⟨dst, .unOp .neg t x, ty, pos, aft, g⟩).run P w = .ok (.value (.int k r)) w := by
  subst hr; simp [execOp, hx, Op.unary, Op.intArith]
theorem y_add {k : IntKind} {a b r : Int} {t u : Nat} (hx : ρ x = .int k a) (hy : ρ y = .int k b) (hr : r = k.wrap (a + b)) : (execOp ρ ⟨dst, .binOp .add t x y u, ty, pos, aft, g⟩).run P w = .ok (.value (.int k r)) w := by
  subst hr; simp [execOp, hx, hy, eqGuard, binOp, Op.intArith]
theorem y_sub {k : IntKind} {a b r : Int} {t u : Nat} (hx : ρ x = .int k a) (hy : ρ y = .int k b) (hr : r = k.wrap (a - b)) : (execOp ρ ⟨dst, .binOp .sub t x y u, ty, pos, aft, g⟩).run P w = .ok (.value (.int k r)) w := by
  subst hr; simp [execOp, hx, hy, eqGuard, binOp, Op.intArith]
theorem y_mul {k : IntKind} {a b r : Int} {t u : Nat} (hx : ρ x = .int k a) (hy : ρ y = .int k b) (hr : r = k.wrap (a * b)) : (execOp ρ ⟨dst, .binOp .mul t x y u, ty, pos, aft, g⟩).run P w = .ok (.value (.int k r)) w := by
  subst hr; simp [execOp, hx, hy, eqGuard, binOp, Op.intArith]
theorem y_quo {k : IntKind} {a b r : Int} {t u : Nat} (hx : ρ x = .int k a) (hy : ρ y = .int k b) (h0 : b ≠ 0) (hr : r = k.wrap (a.tdiv b)) : (execOp ρ ⟨dst, .binOp .quo t x y u, ty, pos, aft, g⟩).run P w = .ok (.value (.int k r)) w := by
  subst hr; simp [execOp, hx, hy, eqGuard, binOp, Op.intDiv, h0]
theorem y_rem {k : IntKind} {a b r : Int} {t u : Nat} (hx : ρ x = .int k a) (hy : ρ y = .int k b) (h0 : b ≠ 0) (hr : r = a.tmod b) : (execOp ρ ⟨dst, .binOp .rem t x y u, ty, pos, aft, g⟩).run P w = .ok (.value (.int k r)) w := by
  subst hr; simp [execOp, hx, hy, eqGuard, binOp, Op.intDiv, h0]
theorem y_shl {k k' : IntKind} {a b r : Int} {t u : Nat} (hx : ρ x = .int k a) (hy : ρ y = .int k' b) (h0 : 0 ≤ b) (hr : r = k.wrap (a * 2 ^ (min b.toNat k.bits))) : (execOp ρ ⟨dst, .binOp .shl t x y u, ty, pos, aft, g⟩).run P w = .ok (.value (.int k r)) w := by
  subst hr; simp [execOp, hx, hy, eqGuard, binOp, Op.shift, Int.not_lt.2 h0]
theorem y_shr {k k' : IntKind} {a b r : Int} {t u : Nat} (hx : ρ x = .int k a) (hy : ρ y = .int k' b) (h0 : 0 ≤ b) (hr : r = a.fdiv (2 ^ (min b.toNat k.bits))) : (execOp ρ ⟨dst, .binOp .shr t x y u, ty, pos, aft, g⟩).run P w = .ok (.value (.int k r)) w := by
  subst hr; simp [execOp, hx, hy, eqGuard, binOp, Op.shift, Int.not_lt.2 h0]
theorem y_and {k : IntKind} {a b r : Int} {t u : Nat} (hx : ρ x = .int k a) (hy : ρ y = .int k b) (hr : r = k.wrap ((BitVec.ofInt k.bits a &&& BitVec.ofInt k.bits b).toNat)) : (execOp ρ ⟨dst, .binOp .and t x y u, ty, pos, aft, g⟩).run P w = .ok (.value (.int k r)) w := by
  subst hr; simp [execOp, hx, hy, eqGuard, binOp, Op.intBits]
theorem y_or {k : IntKind} {a b r : Int} {t u : Nat} (hx : ρ x = .int k a) (hy : ρ y = .int k b) (hr : r = k.wrap ((BitVec.ofInt k.bits a ||| BitVec.ofInt k.bits b).toNat)) : (execOp ρ ⟨dst, .binOp .or t x y u, ty, pos, aft, g⟩).run P w = .ok (.value (.int k r)) w := by
  subst hr; simp [execOp, hx, hy, eqGuard, binOp, Op.intBits]
theorem y_xor {k : IntKind} {a b r : Int} {t u : Nat} (hx : ρ x = .int k a) (hy : ρ y = .int k b) (hr : r = k.wrap ((BitVec.ofInt k.bits a ^^^ BitVec.ofInt k.bits b).toNat)) : (execOp ρ ⟨dst, .binOp .xor t x y u, ty, pos, aft, g⟩).run P w = .ok (.value (.int k r)) w := by
  subst hr; simp [execOp, hx, hy, eqGuard, binOp, Op.intBits]

theorem y_ieq {k : IntKind} {a b : Int} {t u : Nat} (hx : ρ x = .int k a) (hy : ρ y = .int k b) : (execOp ρ ⟨dst, .binOp .eql t x y u, ty, pos, aft, g⟩).run P w = .ok (.value (.bool (decide (a = b)))) w := by
  simp [execOp, hx, hy, eqGuard, binOp, Op.intCmp]; rfl
theorem y_ine {k : IntKind} {a b : Int} {t u : Nat} (hx : ρ x = .int k a) (hy : ρ y = .int k b) : (execOp ρ ⟨dst, .binOp .neq t x y u, ty, pos, aft, g⟩).run P w = .ok (.value (.bool (!decide (a = b)))) w := by
  simp [execOp, hx, hy, eqGuard, binOp, Op.intCmp]; rfl
theorem y_lss {k : IntKind} {a b : Int} {t u : Nat} (hx : ρ x = .int k a) (hy : ρ y = .int k b) : (execOp ρ ⟨dst, .binOp .lss t x y u, ty, pos, aft, g⟩).run P w = .ok (.value (.bool (decide (a < b)))) w := by
  simp [execOp, hx, hy, eqGuard, binOp, Op.intCmp]
theorem y_leq {k : IntKind} {a b : Int} {t u : Nat} (hx : ρ x = .int k a) (hy : ρ y = .int k b) : (execOp ρ ⟨dst, .binOp .leq t x y u, ty, pos, aft, g⟩).run P w = .ok (.value (.bool (decide (a ≤ b)))) w := by
  simp [execOp, hx, hy, eqGuard, binOp, Op.intCmp]
theorem y_gtr {k : IntKind} {a b : Int} {t u : Nat} (hx : ρ x = .int k a) (hy : ρ y = .int k b) : (execOp ρ ⟨dst, .binOp .gtr t x y u, ty, pos, aft, g⟩).run P w = .ok (.value (.bool (decide (b < a)))) w := by
  simp [execOp, hx, hy, eqGuard, binOp, Op.intCmp]
theorem y_geq {k : IntKind} {a b : Int} {t u : Nat} (hx : ρ x = .int k a) (hy : ρ y = .int k b) : (execOp ρ ⟨dst, .binOp .geq t x y u, ty, pos, aft, g⟩).run P w = .ok (.value (.bool (decide (b ≤ a)))) w := by
  simp [execOp, hx, hy, eqGuard, binOp, Op.intCmp]
theorem y_seq {a b : ByteArray} {t u : Nat} (hx : ρ x = .string a) (hy : ρ y = .string b) : (execOp ρ ⟨dst, .binOp .eql t x y u, ty, pos, aft, g⟩).run P w = .ok (.value (.bool (a.toList == b.toList))) w := by
  simp [execOp, hx, hy, eqGuard, binOp, Op.stringOp]
theorem y_sne {a b : ByteArray} {t u : Nat} (hx : ρ x = .string a) (hy : ρ y = .string b) : (execOp ρ ⟨dst, .binOp .neq t x y u, ty, pos, aft, g⟩).run P w = .ok (.value (.bool (!(a.toList == b.toList)))) w := by
  simp [execOp, hx, hy, eqGuard, binOp, Op.stringOp]

/-- '==' on whatever else: by its inner run. -/
theorem y_eqg {v1 v2 : Value} {b : Bool} {t u : Nat} (hx : ρ x = v1) (hy : ρ y = v2) (hg : eqGuard .eql t x y v1 v2 = pure ()) (hb : binOp .eql t v1 v2 = (do pure (.bool (← Op.equal t v1 v2)))) (hr : ∀ d, (Op.equalIn (d + 1) t v1 v2).run P w = .ok b w) :
    (execOp ρ ⟨dst, .binOp .eql t x y u, ty, pos, aft, g⟩).run P w = .ok (.value (.bool b)) w := by
  have h : (Op.equal t v1 v2).run P w = .ok b w := hr 9999
  simp only [execOp, hx, hy, hg, hb]
  simp [h]
theorem y_neg' {v1 v2 : Value} {b : Bool} {t u : Nat} (hx : ρ x = v1) (hy : ρ y = v2) (hg : eqGuard .neq t x y v1 v2 = pure ()) (hb : binOp .neq t v1 v2 = (do pure (.bool (!(← Op.equal t v1 v2))))) (hr : ∀ d, (Op.equalIn (d + 1) t v1 v2).run P w = .ok b w) :
    (execOp ρ ⟨dst, .binOp .neq t x y u, ty, pos, aft, g⟩).run P w = .ok (.value (.bool (!b))) w := by
  have h : (Op.equal t v1 v2).run P w = .ok b w := hr 9999
  simp only [execOp, hx, hy, hg, hb]
  simp [h]
theorem eqIn_bool {a b : Bool} {t d : Nat} (ht : P.underlying t = some .bool) : (Op.equalIn (d + 1) t (.bool a) (.bool b)).run P w = .ok (a == b) w := by
  unfold Op.equalIn; simp [underlying, ht]
theorem eqIn_ptr {p : Option Addr} {t e d : Nat} (ht : P.underlying t = some (.pointer e)) : (Op.equalIn (d + 1) t (.pointer p) (.pointer none)).run P w = .ok p.isNone w := by
  unfold Op.equalIn; cases p <;> simp [underlying, ht]
theorem eqIn_slice {p : Option Addr} {l c t e d : Nat} (ht : P.underlying t = some (.slice e)) : (Op.equalIn (d + 1) t (.slice p l c) (.slice none 0 0)).run P w = .ok p.isNone w := by
  unfold Op.equalIn; cases p <;> simp [underlying, ht]
theorem eqIn_map {p : Option Nat} {t e k d : Nat} (ht : P.underlying t = some (.map k e)) : (Op.equalIn (d + 1) t (.map p) (.map none)).run P w = .ok p.isNone w := by
  unfold Op.equalIn; cases p <;> simp [underlying, ht]
theorem y_beq {a b : Bool} {t u : Nat} (ht : P.underlying t = some .bool) (hx : ρ x = .bool a) (hy : ρ y = .bool b) : (execOp ρ ⟨dst, .binOp .eql t x y u, ty, pos, aft, g⟩).run P w = .ok (.value (.bool (a == b))) w :=
  y_eqg hx hy rfl rfl fun _ => eqIn_bool ht
theorem y_bne {a b : Bool} {t u : Nat} (ht : P.underlying t = some .bool) (hx : ρ x = .bool a) (hy : ρ y = .bool b) : (execOp ρ ⟨dst, .binOp .neq t x y u, ty, pos, aft, g⟩).run P w = .ok (.value (.bool (!(a == b)))) w :=
  y_neg' hx hy rfl rfl fun _ => eqIn_bool ht
/-- A pointer against nil. -/
theorem y_peq {p : Option Addr} {t e u : Nat} (ht : P.underlying t = some (.pointer e)) (hx : ρ x = .pointer p) (hy : ρ y = .pointer none) : (execOp ρ ⟨dst, .binOp .eql t x y u, ty, pos, aft, g⟩).run P w = .ok (.value (.bool p.isNone)) w :=
  y_eqg hx hy rfl rfl fun _ => eqIn_ptr ht
theorem y_pne {p : Option Addr} {t e u : Nat} (ht : P.underlying t = some (.pointer e)) (hx : ρ x = .pointer p) (hy : ρ y = .pointer none) : (execOp ρ ⟨dst, .binOp .neq t x y u, ty, pos, aft, g⟩).run P w = .ok (.value (.bool (!p.isNone))) w :=
  y_neg' hx hy rfl rfl fun _ => eqIn_ptr ht
theorem y_sleq {p : Option Addr} {l c t e u : Nat} (ht : P.underlying t = some (.slice e)) (hx : ρ x = .slice p l c) (hy : ρ y = .slice none 0 0) : (execOp ρ ⟨dst, .binOp .eql t x y u, ty, pos, aft, g⟩).run P w = .ok (.value (.bool p.isNone)) w :=
  y_eqg hx hy rfl rfl fun _ => eqIn_slice ht
theorem y_slne {p : Option Addr} {l c t e u : Nat} (ht : P.underlying t = some (.slice e)) (hx : ρ x = .slice p l c) (hy : ρ y = .slice none 0 0) : (execOp ρ ⟨dst, .binOp .neq t x y u, ty, pos, aft, g⟩).run P w = .ok (.value (.bool (!p.isNone))) w :=
  y_neg' hx hy rfl rfl fun _ => eqIn_slice ht
theorem y_meq {p : Option Nat} {t e k u : Nat} (ht : P.underlying t = some (.map k e)) (hx : ρ x = .map p) (hy : ρ y = .map none) : (execOp ρ ⟨dst, .binOp .eql t x y u, ty, pos, aft, g⟩).run P w = .ok (.value (.bool p.isNone)) w :=
  y_eqg hx hy rfl rfl fun _ => eqIn_map ht
theorem y_mne {p : Option Nat} {t e k u : Nat} (ht : P.underlying t = some (.map k e)) (hx : ρ x = .map p) (hy : ρ y = .map none) : (execOp ρ ⟨dst, .binOp .neq t x y u, ty, pos, aft, g⟩).run P w = .ok (.value (.bool (!p.isNone))) w :=
  y_neg' hx hy rfl rfl fun _ => eqIn_map ht

theorem y_eqv {v1 v2 : Value} {b : Bool} {t u : Nat} (hx : ρ x = v1) (hy : ρ y = v2) (hg : (eqGuard .eql t x y v1 v2).run P w = .ok () w) (hb : (binOp .eql t v1 v2).run P w = .ok (.bool b) w) :
    (execOp ρ ⟨dst, .binOp .eql t x y u, ty, pos, aft, g⟩).run P w = .ok (.value (.bool b)) w := by
  simp [execOp, hx, hy, hg, hb]
theorem y_nev {v1 v2 : Value} {b : Bool} {t u : Nat} (hx : ρ x = v1) (hy : ρ y = v2) (hg : (eqGuard .neq t x y v1 v2).run P w = .ok () w) (hb : (binOp .neq t v1 v2).run P w = .ok (.bool b) w) :
    (execOp ρ ⟨dst, .binOp .neq t x y u, ty, pos, aft, g⟩).run P w = .ok (.value (.bool b)) w := by
  simp [execOp, hx, hy, hg, hb]

theorem y_extract {vs : Array Value} {k : Nat} {v : Value} (hx : ρ x = .tuple vs) (hv : vs[k]? = some v) : (execOp ρ ⟨dst, .extract x k, ty, pos, aft, g⟩).run P w = .ok (.value v) w := by
  simp [execOp, hx, Instr.extract, hv]
theorem y_convi {a r : Int} {k k' : IntKind} {s d : Nat} {ds : TypeDesc} (hs : P.underlying s = some ds) (hd : P.underlying d = some (.int k)) (hx : ρ x = .int k' a) (hr : r = k.wrap a) :
    (execOp ρ ⟨dst, .convert s d x, ty, pos, aft, g⟩).run P w = .ok (.value (.int k r)) w := by
  subst hr
  cases ds <;> simp [execOp, hx, convert, underlying, hs, hd, Conv.intToInt]

/-! addresses -/
theorem y_fieldAddr {a : Addr} {s i sz : Nat} {fs : Array Field} {fd : Field} {ti : TypeInfo} (hs : P.underlying s = some (.struct fs)) (hf : fs[i]? = some fd) (hi : P.info? fd.type = some ti) (hz : ti.size = sz + 1) (hx : ρ x = .pointer (some a)) :
    (execOp ρ ⟨dst, .fieldAddr s x i, ty, pos, aft, g⟩).run P w = .ok (.value (.pointer (some (a.add fd.offset)))) w := by
  simp [execOp, hx, Instr.fieldAt, underlying, hs, hf, Instr.sureAddr, fieldPlace, sizeOf, typeInfo, hi, hz]
theorem y_indexAddr {a : Addr} {l c t e sz : Nat} {k : IntKind} {i : Int} {ti : TypeInfo} (ht : P.underlying t = some (.slice e)) (hi : P.info? e = some ti) (hz : ti.size = sz) (hx : ρ x = .slice (some a) l c) (hy : ρ y = .int k i) (h0 : 0 ≤ i) (h1 : i < l) :
    (execOp ρ ⟨dst, .indexAddr t x y, ty, pos, aft, g⟩).run P w = .ok (.value (.pointer (some (a.add (i.toNat * sz))))) w := by
  simp [execOp, hx, hy, Instr.indexAt, asIntOf, underlying, ht, sizeOf, typeInfo, hi, hz, h0, h1]
theorem y_indexAddrA {a : Addr} {t e n sz : Nat} {k : IntKind} {i : Int} {ti : TypeInfo} (ht : P.underlying t = some (.array n e)) (hi : P.info? e = some ti) (hz : ti.size = sz) (hx : ρ x = .pointer (some a)) (hy : ρ y = .int k i) (h0 : 0 ≤ i) (h1 : i < n) :
    (execOp ρ ⟨dst, .indexAddr t x y, ty, pos, aft, g⟩).run P w = .ok (.value (.pointer (some (a.add (i.toNat * sz))))) w := by
  simp [execOp, hx, hy, Instr.indexAt, Instr.sureAddr, asIntOf, underlying, ht, sizeOf, typeInfo, hi, hz, h0, h1]

theorem add_none (b o n : Nat) : (⟨b, o, none⟩ : Addr).add n = ⟨b, o + n, none⟩ := by
  unfold Addr.add; split
  · rename_i h; subst h; rfl
  · rfl
theorem y_ix {b o l c t e sz : Nat} {k : IntKind} {i : Int} {ti : TypeInfo} (ht : P.underlying t = some (.slice e)) (hi : P.info? e = some ti) (hz : ti.size = sz) (hx : ρ x = .slice (some ⟨b, o, none⟩) l c) (hy : ρ y = .int k i) (h0 : 0 ≤ i) (h1 : i < l) :
    (execOp ρ ⟨dst, .indexAddr t x y, ty, pos, aft, g⟩).run P w = .ok (.value (.pointer (some ⟨b, o + i.toNat * sz, none⟩))) w := by
  rw [y_indexAddr ht hi hz hx hy h0 h1, add_none]
theorem y_ix1 {b o l c t e : Nat} {k : IntKind} {i : Int} {ti : TypeInfo} (ht : P.underlying t = some (.slice e)) (hi : P.info? e = some ti) (hz : ti.size = 1) (hx : ρ x = .slice (some ⟨b, o, none⟩) l c) (hy : ρ y = .int k i) (h0 : 0 ≤ i) (h1 : i < l) :
    (execOp ρ ⟨dst, .indexAddr t x y, ty, pos, aft, g⟩).run P w = .ok (.value (.pointer (some ⟨b, o + i.toNat, none⟩))) w := by
  rw [y_indexAddr ht hi hz hx hy h0 h1, add_none, Nat.mul_one]
theorem y_ixA {b o t e n sz : Nat} {k : IntKind} {i : Int} {ti : TypeInfo} (ht : P.underlying t = some (.array n e)) (hi : P.info? e = some ti) (hz : ti.size = sz) (hx : ρ x = .pointer (some ⟨b, o, none⟩)) (hy : ρ y = .int k i) (h0 : 0 ≤ i) (h1 : i < n) :
    (execOp ρ ⟨dst, .indexAddr t x y, ty, pos, aft, g⟩).run P w = .ok (.value (.pointer (some ⟨b, o + i.toNat * sz, none⟩))) w := by
  rw [y_indexAddrA ht hi hz hx hy h0 h1, add_none]
/-- Where 's[l:..]' begins. -/
def subA (a : Option Addr) (sz c l : Nat) : Option Addr := if c = l then a else a.map (·.add (l * sz))
theorem y_sliceLH {a a' : Option Addr} {l c t e sz : Nat} {i j : Int} {lo hi : Operand} {k k' : IntKind} {ti : TypeInfo} (ht : P.underlying t = some (.slice e)) (hti : P.info? e = some ti) (hz : ti.size = sz) (hx : ρ x = .slice a l c) (hlo : ρ lo = .int k i) (hhi : ρ hi = .int k' j) (h0 : 0 ≤ i) (h1 : i ≤ j) (h2 : j ≤ c) (ha : a' = subA a sz c i.toNat) :
    (execOp ρ ⟨dst, .slice t x (some lo) (some hi) none, ty, pos, aft, g⟩).run P w = .ok (.value (.slice a' (j.toNat - i.toNat) (c - i.toNat))) w := by
  subst ha
  obtain ⟨i, rfl⟩ := Int.eq_ofNat_of_zero_le h0
  obtain ⟨j, rfl⟩ := Int.eq_ofNat_of_zero_le (Int.le_trans h0 h1)
  have h4 : i ≤ j := by omega
  have h5 : j ≤ c := by omega
  simp [execOp, hx, hlo, hhi, Instr.sliceAt, Instr.slice, Instr.sliceBounds, Instr.sliceBound, asIntOf, underlying, ht, sizeOf, typeInfo, hti, hz, h4, h5, subA]
theorem y_sliceL {a a' : Option Addr} {l c t e sz : Nat} {i : Int} {lo : Operand} {k : IntKind} {ti : TypeInfo} (ht : P.underlying t = some (.slice e)) (hti : P.info? e = some ti) (hz : ti.size = sz) (hx : ρ x = .slice a l c) (hlo : ρ lo = .int k i) (h0 : 0 ≤ i) (h1 : i ≤ l) (ha : a' = subA a sz c i.toNat) :
    (execOp ρ ⟨dst, .slice t x (some lo) none none, ty, pos, aft, g⟩).run P w = .ok (.value (.slice a' (l - i.toNat) (c - i.toNat))) w := by
  subst ha
  simp [execOp, hx, hlo, Instr.sliceAt, Instr.slice, Instr.sliceBounds, Instr.sliceBound, asIntOf, underlying, ht, sizeOf, typeInfo, hti, hz, h0, h1, subA]
theorem y_sliceH {a a' : Option Addr} {l c t e : Nat} {j : Int} {hi : Operand} {k : IntKind} {ti : TypeInfo} (ht : P.underlying t = some (.slice e)) (hti : P.info? e = some ti) (hx : ρ x = .slice a l c) (hhi : ρ hi = .int k j) (h0 : 0 ≤ j) (h1 : j ≤ c) (ha : a' = a) :
    (execOp ρ ⟨dst, .slice t x none (some hi) none, ty, pos, aft, g⟩).run P w = .ok (.value (.slice a' j.toNat c)) w := by
  subst ha
  have hm : (Option.map (fun x : Addr => x.add 0) a') = a' := by cases a' <;> rfl
  simp [execOp, hx, hhi, Instr.sliceAt, Instr.slice, Instr.sliceBounds, Instr.sliceBound, asIntOf, underlying, ht, sizeOf, typeInfo, hti, h0, h1, hm]
theorem y_sliceLHM {a a' : Option Addr} {l c t e sz : Nat} {i j m : Int} {lo hi mx : Operand} {k k' k2 : IntKind} {ti : TypeInfo} (ht : P.underlying t = some (.slice e)) (hti : P.info? e = some ti) (hz : ti.size = sz) (hx : ρ x = .slice a l c) (hlo : ρ lo = .int k i) (hhi : ρ hi = .int k' j) (hmx : ρ mx = .int k2 m) (h0 : 0 ≤ i) (h1 : i ≤ j) (h2 : j ≤ m) (h5 : m ≤ c) (ha : a' = subA a sz m.toNat i.toNat) :
    (execOp ρ ⟨dst, .slice t x (some lo) (some hi) (some mx), ty, pos, aft, g⟩).run P w = .ok (.value (.slice a' (j.toNat - i.toNat) (m.toNat - i.toNat))) w := by
  subst ha
  obtain ⟨i, rfl⟩ := Int.eq_ofNat_of_zero_le h0
  obtain ⟨j, rfl⟩ := Int.eq_ofNat_of_zero_le (Int.le_trans h0 h1)
  obtain ⟨m, rfl⟩ := Int.eq_ofNat_of_zero_le (Int.le_trans (Int.le_trans h0 h1) h2)
  have h4 : i ≤ j := by omega
  have h6 : j ≤ m := by omega
  have h7 : m ≤ c := by omega
  simp [execOp, hx, hlo, hhi, hmx, Instr.sliceAt, Instr.slice, Instr.sliceBounds, Instr.sliceBound, asIntOf, underlying, ht, sizeOf, typeInfo, hti, hz, h4, h6, h7, subA]
theorem y_sliceSLH {s : ByteArray} {t : Nat} {i j : Int} {lo hi : Operand} {k k' : IntKind} (ht : P.underlying t = some .string) (hx : ρ x = .string s) (hlo : ρ lo = .int k i) (hhi : ρ hi = .int k' j) (h0 : 0 ≤ i) (h1 : i ≤ j) (h2 : j ≤ s.size) :
    (execOp ρ ⟨dst, .slice t x (some lo) (some hi) none, ty, pos, aft, g⟩).run P w = .ok (.value (.string (s.extract i.toNat j.toNat))) w := by
  obtain ⟨i, rfl⟩ := Int.eq_ofNat_of_zero_le h0
  obtain ⟨j, rfl⟩ := Int.eq_ofNat_of_zero_le (Int.le_trans h0 h1)
  have h4 : i ≤ j := by omega
  have h5 : j ≤ s.size := by omega
  simp [execOp, hx, hlo, hhi, Instr.sliceAt, Instr.slice, Instr.sliceBounds, Instr.sliceBound, asIntOf, underlying, ht, h4, h5]
theorem y_len {a : Option Addr} {l c t e : Nat} {ats : Array Nat} {xs : Array Operand} (ht : P.underlying t = some (.slice e)) (ha : ats = #[t]) (hxs : xs.map ρ = #[.slice a l c]) :
    (execOp ρ ⟨dst, .call { callee := .builtin .len, args := xs, argTypes := ats }, ty, pos, aft, g⟩).run P w = .ok (.value (.int .i64 (l : Int))) w := by
  subst ha
  simp [execOp, resolve, invoke, builtin, hxs, Builtin.len_, underlying, ht, goInt]
theorem y_lenS {s : ByteArray} {t : Nat} {ats : Array Nat} {xs : Array Operand} (ht : P.underlying t = some .string) (ha : ats = #[t]) (hxs : xs.map ρ = #[.string s]) :
    (execOp ρ ⟨dst, .call { callee := .builtin .len, args := xs, argTypes := ats }, ty, pos, aft, g⟩).run P w = .ok (.value (.int .i64 (s.size : Int))) w := by
  subst ha
  simp [execOp, resolve, invoke, builtin, hxs, Builtin.len_, underlying, ht, goInt]
theorem y_min {k : IntKind} {a b r : Int} {ats : Array Nat} {xs : Array Operand} (hxs : xs.map ρ = #[.int k a, .int k b]) (hr : r = min a b) :
    (execOp ρ ⟨dst, .call { callee := .builtin .min, args := xs, argTypes := ats }, ty, pos, aft, g⟩).run P w = .ok (.value (.int k r)) w := by
  have e : (if b < a then b else a) = r := by rw [hr]; omega
  simp [execOp, resolve, invoke, builtin, hxs, Builtin.min_, Builtin.min2, e]
theorem y_max {k : IntKind} {a b r : Int} {ats : Array Nat} {xs : Array Operand} (hxs : xs.map ρ = #[.int k a, .int k b]) (hr : r = max a b) :
    (execOp ρ ⟨dst, .call { callee := .builtin .max, args := xs, argTypes := ats }, ty, pos, aft, g⟩).run P w = .ok (.value (.int k r)) w := by
  have e : (if a < b then b else a) = r := by rw [hr]; omega
  simp [execOp, resolve, invoke, builtin, hxs, Builtin.max_, Builtin.max2, e]
/-- A byte of a text. -/
def strAt (s : ByteArray) (i : Nat) : Int := ((s[i]?.getD 0).toNat : Int)
theorem y_indexS {s : ByteArray} {t : Nat} {k : IntKind} {i r : Int} (ht : P.underlying t = some .string) (hx : ρ x = .string s) (hy : ρ y = .int k i) (h0 : 0 ≤ i) (h1 : i < ((s.size : Nat) : Int)) (hr : r = strAt s i.toNat) :
    (execOp ρ ⟨dst, .index t x y, ty, pos, aft, g⟩).run P w = .ok (.value (.int .u8 r)) w := by
  subst hr
  have h2 : i.toNat < s.size := by omega
  have e : strAt s i.toNat = ((s[i.toNat]'h2).toNat : Int) := by simp [strAt, h2]
  rw [e]
  have h3 : s[i.toNat]? = some (s[i.toNat]'h2) := by simp [h2]
  simp [execOp, hx, hy, Instr.index, asIntOf, underlying, ht, h0, h3]

theorem y_fa {b o s i sz off ft : Nat} {fs : Array Field} {ti : TypeInfo} (hs : P.underlying s = some (.struct fs)) (hf : (fs[i]?).map (fun f => (f.offset, f.type)) = some (off, ft)) (hi : P.info? ft = some ti) (hz : ti.size = sz + 1) (hx : ρ x = .pointer (some ⟨b, o, none⟩)) :
    (execOp ρ ⟨dst, .fieldAddr s x i, ty, pos, aft, g⟩).run P w = .ok (.value (.pointer (some ⟨b, o + off, none⟩))) w := by
  cases hfd : fs[i]? with
  | none => rw [hfd] at hf; cases hf
  | some fd =>
    rw [hfd] at hf
    simp only [Option.map_some, Option.some.injEq, Prod.mk.injEq] at hf
    obtain ⟨rfl, rfl⟩ := hf
    rw [y_fieldAddr hs hfd hi hz hx, add_none]

/-! memory -/
theorem run_loadCellsFrom (a : Addr) (vs : List Value) (w : World) : ∀ (i : Nat) (acc : Array Value), (∀ j v, vs[j]? = some v → w.cell? (a.add (i + j)) = some v) →
    (loadCellsFrom a i vs.length acc).run P w = .ok (acc ++ vs.toArray) w := by
  induction vs with
  | nil => intro i acc _; simp [loadCellsFrom]
  | cons v vs ih =>
    intro i acc h
    have h0 := h 0 v rfl
    simp only [Nat.add_zero] at h0
    simp only [List.length_cons, loadCellsFrom, Sem.run_bind, run_load, h0, Result.andThen_ok]
    rw [ih (i + 1) _ (fun j u hj => by have := h (j + 1) u (by simpa using hj); rwa [show i + (j + 1) = i + 1 + j by omega] at this)]
    simp

/-- A row of cells, from an address on. -/
def CellsAt (w : World) (a : Addr) (vs : List Value) : Prop := ∀ j v, vs[j]? = some v → w.cell? (a.add j) = some v

theorem y_load {a : Addr} {t : Nat} {v : Value} {td : TypeDesc} (ht : P.underlying t = some td) (hagg : (match td with | .struct _ | .array _ _ => true | _ => false) = false) (hx : ρ x = .pointer (some a)) (hc : w.cell? a = some v) :
    (execOp ρ ⟨dst, .load t x, ty, pos, aft, g⟩).run P w = .ok (.value v) w := by
  have hia : (isAgg t).run P w = .ok false w := by
    unfold isAgg
    cases td <;> simp_all [underlying]
  simp [execOp, hx, Instr.loadAt, Instr.sureAddr, loadVar, hia, hc]
theorem y_loadAgg {a : Addr} {t : Nat} {vs : List Value} {td : TypeDesc} {ti : TypeInfo} (ht : P.underlying t = some td) (hagg : (match td with | .struct _ | .array _ _ => true | _ => false) = true) (hi : P.info? t = some ti) (hz : ti.size = vs.length) (hx : ρ x = .pointer (some a)) (hc : CellsAt w a vs) :
    (execOp ρ ⟨dst, .load t x, ty, pos, aft, g⟩).run P w = .ok (.value (.agg vs.toArray)) w := by
  have hia : (isAgg t).run P w = .ok true w := by
    unfold isAgg
    cases td <;> simp_all [underlying]
  have hl := run_loadCellsFrom (P := P) a vs w 0 #[] (fun j v hj => by rw [Nat.zero_add]; exact hc j v hj)
  simp [execOp, hx, Instr.loadAt, Instr.sureAddr, loadVar, hia, sizeOf, typeInfo, hi, hz, loadCells, hl]

/-- Cells that are written, one behind the other. -/
def putCells (w : World) (a : Addr) : List Value → Nat → World
  | [], _ => w
  | v :: vs, i => putCells (w.setCell (a.add i) v) a vs (i + 1)

theorem y_store {a : Addr} {t : Nat} {v : Value} {w1 : World} {ti : TypeInfo} (hi : P.info? t = some ti) (hz : ti.size = 1) (h1 : v.oneCell' = true) (hx : ρ x = .pointer (some a)) (hy : ρ y = v) (hc : (w.cell? a).isSome = true) (hf : w.frozen? a = false) (hw : w1 = w.setCell a v) :
    (execOp ρ ⟨dst, .store t x y, ty, pos, aft, g⟩).run P w = .ok .skip w1 := by
  subst hw
  obtain ⟨u, hc⟩ := Option.isSome_iff_exists.1 hc
  have hcs : v.cells = #[v] := by cases v <;> first | rfl | (simp [Value.oneCell'] at h1)
  have ha0 : a.add 0 = a := rfl
  simp [execOp, hx, hy, Instr.storeAt, Instr.sureAddr, storeVar, sizeOf, typeInfo, hi, hz, hcs, storeCells, ha0, run_store, h1, hc, hf]

theorem isSome_set (c : Array Value) (i : Nat) (v : Value) (j : Nat) : (c.setIfInBounds i v)[j]?.isSome = c[j]?.isSome := by
  by_cases h : j < c.size
  · simp [h]
  · simp [Array.getElem?_eq_none (Nat.le_of_not_lt h)]; omega

theorem run_storeCells (P : Program) (a : Addr) (vs : List Value) : ∀ (w : World) (i : Nat), (∀ v ∈ vs, v.oneCell' = true) → (∀ j, j < vs.length → (w.cell? (a.add (i + j))).isSome = true ∧ w.frozen? (a.add (i + j)) = false) →
    (storeCells a vs i).run P w = .ok () (putCells w a vs i) := by
  induction vs with
  | nil => intro w i _ _; simp [storeCells, putCells]
  | cons v vs ih =>
    intro w i h1 h
    obtain ⟨hc, hf⟩ := h 0 (by simp)
    rw [Nat.add_zero] at hc hf
    obtain ⟨u, hu⟩ := Option.isSome_iff_exists.1 hc
    have hsome : ∀ (b : Addr), ((w.setCell (a.add i) v).cell? b).isSome = (w.cell? b).isSome := by
      intro b
      simp only [World.cell?, World.setCell, Array.getElem?_modify]
      by_cases hb : (a.add i).block = b.block
      · rw [if_pos hb]
        cases hh : w.heap[b.block]? with
        | none => simp
        | some o =>
          cases o with
          | cells c e z =>
            simp only [Option.map_some]
            cases b.spot with
            | some _ => rfl
            | none =>
              cases (a.add i).spot with
              | some _ => rfl
              | none => exact isSome_set c _ v _
          | _ => rfl
      · rw [if_neg hb]
    have hfro : ∀ (b : Addr), (w.setCell (a.add i) v).frozen? b = w.frozen? b := by
      intro b
      simp only [World.frozen?, World.setCell, Array.getElem?_modify]
      by_cases hb : (a.add i).block = b.block
      · rw [if_pos hb]
        cases hh : w.heap[b.block]? with
        | none => simp
        | some o => cases o <;> simp
      · rw [if_neg hb]
    simp only [storeCells, Sem.run_bind, run_store P w _ v .plain (h1 v (by simp)), hu, hf, Bool.false_eq_true, if_false, Result.andThen_ok, putCells]
    refine ih _ _ (fun u hu => h1 u (by simp [hu])) fun j hj => ?_
    have := h (j + 1) (by simp; omega)
    rw [show i + (j + 1) = i + 1 + j by omega] at this
    rw [hsome, hfro]
    exact this

theorem y_storeAgg {a : Addr} {t : Nat} {vs : List Value} {w1 : World} {ti : TypeInfo} (hi : P.info? t = some ti) (hz : ti.size = vs.length) (h1 : ∀ v ∈ vs, v.oneCell' = true) (hx : ρ x = .pointer (some a)) (hy : ρ y = .agg vs.toArray)
    (hc : ∀ j, j < vs.length → (w.cell? (a.add j)).isSome = true ∧ w.frozen? (a.add j) = false) (hw : w1 = putCells w a vs 0) :
    (execOp ρ ⟨dst, .store t x y, ty, pos, aft, g⟩).run P w = .ok .skip w1 := by
  subst hw
  have hl := run_storeCells P a vs w 0 h1 (fun j hj => by rw [Nat.zero_add]; exact hc j hj)
  simp [execOp, hx, hy, Instr.storeAt, Instr.sureAddr, storeVar, sizeOf, typeInfo, hi, hz, Value.cells, hl]

theorem y_alloc {e b : Nat} {w1 : World} {ti : TypeInfo} {z : Value} {cs : Array Value} (hi : P.info? e = some ti) (hz : ti.zero = some z) (hcs : z.cells = cs) (hb : b = w.heap.size) (hw : w1 = w.alloc (.cells cs e)) :
    (execOp ρ ⟨dst, .alloc e, ty, pos, aft, g⟩).run P w = .ok (.value (.pointer (some ⟨b, 0, none⟩))) w1 := by
  subst hb hw hcs
  simp [execOp, Instr.alloc, zeroValue, typeInfo, hi, hz, newVar, newRow]
theorem y_box {e b : Nat} {w1 : World} {v : Value} {cs : Array Value} (hx : ρ x = v) (hcs : v.cells = cs) (hb : b = w.heap.size) (hw : w1 = w.alloc (.cells cs e)) :
    (execOp ρ ⟨dst, .box e x, ty, pos, aft, g⟩).run P w = .ok (.value (.pointer (some ⟨b, 0, none⟩))) w1 := by
  subst hb hw hcs
  simp [execOp, hx, Instr.box, newVar, newRow]
theorem y_makeFunc {fn : Fn} {first cap : Array Operand} {vf vc : Array Value} (h1 : first.map ρ = vf) (h2 : cap.map ρ = vc) :
    (execOp ρ ⟨dst, .makeFunc fn first cap, ty, pos, aft, g⟩).run P w = .ok (.value (.func fn vf vc)) w := by
  simp [execOp, Instr.makeFunc, h1, h2]
theorem y_makeMap {t b : Nat} {w1 : World} (hb : b = w.heap.size) (hw : w1 = w.alloc (.map #[] 0)) : (execOp ρ ⟨dst, .makeMap t none, ty, pos, aft, g⟩).run P w = .ok (.value (.map (some b))) w1 := by
  subst hb hw
  simp [execOp, Instr.makeMap]

/-! what is told by its inner run -/
theorem y_val {op : Op} {s : Sem Value} {v : Value} {w' : World} (he : execOp ρ ⟨dst, op, ty, pos, aft, g⟩ = (do pure (Next.value (← s)))) (hs : s.run P w = .ok v w') :
    (execOp ρ ⟨dst, op, ty, pos, aft, g⟩).run P w = .ok (.value v) w' := by
  rw [he]; simp [hs]
theorem y_unit {op : Op} {s : Sem Unit} {w' : World} (he : execOp ρ ⟨dst, op, ty, pos, aft, g⟩ = (do s; pure Next.skip)) (hs : s.run P w = .ok () w') :
    (execOp ρ ⟨dst, op, ty, pos, aft, g⟩).run P w = .ok .skip w' := by
  rw [he]; simp [hs]
theorem y_sliceSL {s : ByteArray} {t : Nat} {i : Int} {lo : Operand} {k : IntKind} (ht : P.underlying t = some .string) (hx : ρ x = .string s) (hlo : ρ lo = .int k i) (h0 : 0 ≤ i) (h1 : i ≤ ((s.size : Nat) : Int)) :
    (execOp ρ ⟨dst, .slice t x (some lo) none none, ty, pos, aft, g⟩).run P w = .ok (.value (.string (s.extract i.toNat s.size))) w := by
  obtain ⟨i, rfl⟩ := Int.eq_ofNat_of_zero_le h0
  have h5 : i ≤ s.size := by omega
  simp [execOp, hx, hlo, Instr.sliceAt, Instr.slice, Instr.sliceBounds, Instr.sliceBound, asIntOf, underlying, ht, h5]
theorem y_sliceSH {s : ByteArray} {t : Nat} {j : Int} {hi : Operand} {k : IntKind} (ht : P.underlying t = some .string) (hx : ρ x = .string s) (hhi : ρ hi = .int k j) (h0 : 0 ≤ j) (h1 : j ≤ ((s.size : Nat) : Int)) :
    (execOp ρ ⟨dst, .slice t x none (some hi) none, ty, pos, aft, g⟩).run P w = .ok (.value (.string (s.extract 0 j.toNat))) w := by
  obtain ⟨j, rfl⟩ := Int.eq_ofNat_of_zero_le h0
  have h5 : j ≤ s.size := by omega
  simp [execOp, hx, hhi, Instr.sliceAt, Instr.slice, Instr.sliceBounds, Instr.sliceBound, asIntOf, underlying, ht, h5]
theorem y_sadd {a b : ByteArray} {t u : Nat} (hx : ρ x = .string a) (hy : ρ y = .string b) (hs : a.size + b.size ≤ 9223372036854775807) : (execOp ρ ⟨dst, .binOp .add t x y u, ty, pos, aft, g⟩).run P w = .ok (.value (.string (a ++ b))) w := by
  have h : ¬ (((a.size + b.size : Nat) : Int) > IntKind.i64.max) := by
    have : IntKind.i64.max = 9223372036854775807 := by decide
    rw [this]; omega
  simp only [execOp, hx, hy, eqGuard, binOp, Op.stringOp, if_neg h]
  rfl
theorem y_conv {s d : Nat} {v u : Value} {w1 : World} (hx : ρ x = v) (h : (convert s d v).run P w = .ok u w1) : (execOp ρ ⟨dst, .convert s d x, ty, pos, aft, g⟩).run P w = .ok (.value u) w1 :=
  y_val (by subst hx; rfl) h
theorem e_builtin {b : Builtin} {args : Array Operand} {ats : Array Nat} {vs : Array Value} (h : args.map ρ = vs) (s : Sem Value)
    (hs : ∀ cs, builtin b ats ty cs vs = (do pure (Next.value (← s)))) :
    execOp ρ ⟨dst, .call { callee := .builtin b, args := args, argTypes := ats }, ty, pos, aft, g⟩ = (do pure (Next.value (← s))) := by
  subst h
  exact hs _

theorem y_build {t : Nat} {ps : Array (Nat × Operand)} {vs : Array (Nat × Value)} {v : Value} (hp : ps.map (fun (i, x) => (i, ρ x)) = vs) (h : (Instr.build t vs).run P w = .ok v w) :
    (execOp ρ ⟨dst, .build t ps, ty, pos, aft, g⟩).run P w = .ok (.value v) w := y_val (s := Instr.build t vs) (by subst hp; rfl) h
theorem y_buildSlice {t l b : Nat} {w1 : World} {o : Obj} {ps : Array (Nat × Operand)} {vs : Array (Nat × Value)} (hp : ps.map (fun (i, x) => (i, ρ x)) = vs) (hb : b = w.heap.size) (hw : w1 = w.alloc o)
    (h : (Instr.buildSlice t l vs).run P w = .ok (.slice (some ⟨w.heap.size, 0, none⟩) l l) (w.alloc o)) :
    (execOp ρ ⟨dst, .buildSlice t l ps, ty, pos, aft, g⟩).run P w = .ok (.value (.slice (some ⟨b, 0, none⟩) l l)) w1 := by
  subst hb hw
  exact y_val (s := Instr.buildSlice t l vs) (by subst hp; rfl) h
theorem y_field {t i : Nat} {v u : Value} (hx : ρ x = v) (h : (Instr.field t v i).run P w = .ok u w) : (execOp ρ ⟨dst, .field t x i, ty, pos, aft, g⟩).run P w = .ok (.value u) w :=
  y_val (s := Instr.field t v i) (by subst hx; rfl) h
theorem y_lookup {t : Nat} {ok : Bool} {m k v : Value} (hx : ρ x = m) (hy : ρ y = k) (h : (Instr.lookup t m k ok).run P w = .ok v w) : (execOp ρ ⟨dst, .lookup t x y ok, ty, pos, aft, g⟩).run P w = .ok (.value v) w :=
  y_val (s := Instr.lookup t m k ok) (by subst hx hy; rfl) h
theorem y_mapUpdate {t : Nat} {m k v : Value} {w1 : World} (hx : ρ x = m) (hy : ρ y = k) (hz : ρ z = v) (h : (Instr.mapUpdate t m k v).run P w = .ok () w1) : (execOp ρ ⟨dst, .mapUpdate t x y z, ty, pos, aft, g⟩).run P w = .ok .skip w1 :=
  y_unit (s := Instr.mapUpdate t m k v) (by subst hx hy hz; rfl) h
theorem y_mapEntry {t : Nat} {m k v : Value} {w1 : World} (hx : ρ x = m) (hy : ρ y = k) (h : (Instr.mapEntry t m k).run P w = .ok v w1) : (execOp ρ ⟨dst, .mapEntry t x y, ty, pos, aft, g⟩).run P w = .ok (.value v) w1 :=
  y_val (s := Instr.mapEntry t m k) (by subst hx hy; rfl) h
theorem y_entryStore {t : Nat} {m k v : Value} {w1 : World} (hx : ρ x = m) (hy : ρ y = k) (hz : ρ z = v) (h : (Instr.entryStore t m k v).run P w = .ok () w1) : (execOp ρ ⟨dst, .entryStore t x y z, ty, pos, aft, g⟩).run P w = .ok .skip w1 :=
  y_unit (s := Instr.entryStore t m k v) (by subst hx hy hz; rfl) h
theorem y_makeSlice {t : Nat} {l c v : Value} {w1 : World} (hx : ρ x = l) (hy : ρ y = c) (h : (Instr.makeSlice t l c).run P w = .ok v w1) : (execOp ρ ⟨dst, .makeSlice t x y, ty, pos, aft, g⟩).run P w = .ok (.value v) w1 :=
  y_val (s := Instr.makeSlice t l c) (by subst hx hy; rfl) h
theorem y_range {t : Nat} {v u : Value} {w1 : World} (hx : ρ x = u) (h : (Instr.range t u).run P w = .ok v w1) : (execOp ρ ⟨dst, .range t x, ty, pos, aft, g⟩).run P w = .ok (.value v) w1 :=
  y_val (s := Instr.range t u) (by subst hx; rfl) h
theorem y_next {s : Bool} {v u : Value} {w1 : World} (hx : ρ x = u) (h : (Instr.next u s ty).run P w = .ok v w1) : (execOp ρ ⟨dst, .next x s, ty, pos, aft, g⟩).run P w = .ok (.value v) w1 :=
  y_val (s := Instr.next u s ty) (by subst hx; rfl) h
theorem y_entry {v u : Value} (hx : ρ x = u) (h : (Instr.entry u).run P w = .ok v w) : (execOp ρ ⟨dst, .entry x, ty, pos, aft, g⟩).run P w = .ok (.value v) w :=
  y_val (s := Instr.entry u) (by subst hx; rfl) h
theorem y_extractV {i : Nat} {v u : Value} (hx : ρ x = v) (h : (Instr.extract v i).run P w = .ok u w) : (execOp ρ ⟨dst, .extract x i, ty, pos, aft, g⟩).run P w = .ok (.value u) w :=
  y_val (s := Instr.extract v i) (by subst hx; rfl) h
theorem y_bi_len {xs : Array Operand} {ats : Array Nat} {vs : Array Value} {v : Value} {w1 : World} (hx : xs.map ρ = vs) (h : (Builtin.len_ ats ty vs).run P w = .ok v w1) :
    (execOp ρ ⟨dst, .call { callee := .builtin .len, args := xs, argTypes := ats }, ty, pos, aft, g⟩).run P w = .ok (.value v) w1 := y_val (s := Builtin.len_ ats ty vs) (by subst hx; rfl) h
theorem y_bi_append {xs : Array Operand} {ats : Array Nat} {vs : Array Value} {v : Value} {w1 : World} (hx : xs.map ρ = vs) (h : (Builtin.append_ ats ty vs).run P w = .ok v w1) :
    (execOp ρ ⟨dst, .call { callee := .builtin .append, args := xs, argTypes := ats }, ty, pos, aft, g⟩).run P w = .ok (.value v) w1 := y_val (s := Builtin.append_ ats ty vs) (by subst hx; rfl) h
theorem y_bi_delete {xs : Array Operand} {ats : Array Nat} {vs : Array Value} {v : Value} {w1 : World} (hx : xs.map ρ = vs) (h : (Builtin.delete_ ats ty vs).run P w = .ok v w1) :
    (execOp ρ ⟨dst, .call { callee := .builtin .delete, args := xs, argTypes := ats }, ty, pos, aft, g⟩).run P w = .ok (.value v) w1 := y_val (s := Builtin.delete_ ats ty vs) (by subst hx; rfl) h
theorem y_bi_clear {xs : Array Operand} {ats : Array Nat} {vs : Array Value} {v : Value} {w1 : World} (hx : xs.map ρ = vs) (h : (Builtin.clear_ ats ty vs).run P w = .ok v w1) :
    (execOp ρ ⟨dst, .call { callee := .builtin .clear, args := xs, argTypes := ats }, ty, pos, aft, g⟩).run P w = .ok (.value v) w1 := y_val (s := Builtin.clear_ ats ty vs) (by subst hx; rfl) h
theorem y_bi_copy {xs : Array Operand} {ats : Array Nat} {vs : Array Value} {v : Value} {w1 : World} (hx : xs.map ρ = vs) (h : (Builtin.copy_ ats ty vs).run P w = .ok v w1) :
    (execOp ρ ⟨dst, .call { callee := .builtin .copy, args := xs, argTypes := ats }, ty, pos, aft, g⟩).run P w = .ok (.value v) w1 := y_val (s := Builtin.copy_ ats ty vs) (by subst hx; rfl) h

theorem map_ev0 : (#[] : Array Operand).map ρ = #[] := by simp
theorem map_ev1 {a : Operand} {u : Value} (h1 : ρ a = u) : #[a].map ρ = #[u] := by simp [h1]
theorem map_ev2 {a b : Operand} {u v : Value} (h1 : ρ a = u) (h2 : ρ b = v) : #[a, b].map ρ = #[u, v] := by simp [h1, h2]
theorem map_ev3 {a b c : Operand} {u v s : Value} (h1 : ρ a = u) (h2 : ρ b = v) (h3 : ρ c = s) : #[a, b, c].map ρ = #[u, v, s] := by simp [h1, h2, h3]
theorem map_ev4 {a b c d : Operand} {u v s r : Value} (h1 : ρ a = u) (h2 : ρ b = v) (h3 : ρ c = s) (h4 : ρ d = r) : #[a, b, c, d].map ρ = #[u, v, s, r] := by simp [h1, h2, h3, h4]
theorem map_ev5 {a b c d e : Operand} {u v s r q : Value} (h1 : ρ a = u) (h2 : ρ b = v) (h3 : ρ c = s) (h4 : ρ d = r) (h5 : ρ e = q) : #[a, b, c, d, e].map ρ = #[u, v, s, r, q] := by simp [h1, h2, h3, h4, h5]
theorem parts_ev1 {i : Nat} {a : Operand} {u : Value} (h1 : ρ a = u) : #[(i, a)].map (fun (i, x) => (i, ρ x)) = #[(i, u)] := by simp [h1]
theorem parts_ev2 {i j : Nat} {a b : Operand} {u v : Value} (h1 : ρ a = u) (h2 : ρ b = v) : #[(i, a), (j, b)].map (fun (i, x) => (i, ρ x)) = #[(i, u), (j, v)] := by simp [h1, h2]
theorem parts_ev3 {i j k : Nat} {a b c : Operand} {u v s : Value} (h1 : ρ a = u) (h2 : ρ b = v) (h3 : ρ c = s) : #[(i, a), (j, b), (k, c)].map (fun (i, x) => (i, ρ x)) = #[(i, u), (j, v), (k, s)] := by simp [h1, h2, h3]
theorem parts_ev4 {i j k l : Nat} {a b c d : Operand} {u v s r : Value} (h1 : ρ a = u) (h2 : ρ b = v) (h3 : ρ c = s) (h4 : ρ d = r) : #[(i, a), (j, b), (k, c), (l, d)].map (fun (i, x) => (i, ρ x)) = #[(i, u), (j, v), (k, s), (l, r)] := by simp [h1, h2, h3, h4]
theorem parts_ev5 {i j k l m : Nat} {a b c d e : Operand} {u v s r q : Value} (h1 : ρ a = u) (h2 : ρ b = v) (h3 : ρ c = s) (h4 : ρ d = r) (h5 : ρ e = q) : #[(i, a), (j, b), (k, c), (l, d), (m, e)].map (fun (i, x) => (i, ρ x)) = #[(i, u), (j, v), (k, s), (l, r), (m, q)] := by simp [h1, h2, h3, h4, h5]

/-! calls -/
theorem y_call {k : Nat} {args : Array Operand} {ats : Array Nat} {vs : Array Value} (hk : ∀ args w, (callFunc k args).run P w = .ok (.enter k args) w) (h : args.map ρ = vs) (hf : ρ x = .func (.func k) #[] #[]) :
    (execOp ρ ⟨dst, .call { callee := .value x, args := args, argTypes := ats }, ty, pos, aft, g⟩).run P w = .ok (.enter k vs) w := by
  have hk' := hk vs w
  simp [execOp, resolve, hf, Deferred.ofValue, invoke, h, hk']
theorem y_callv {k : Nat} {args : Array Operand} {ats : Array Nat} {vs first cap : Array Value} (hk : ∀ args w, (callFunc k args).run P w = .ok (.enter k args) w) (h : args.map ρ = vs) (hf : ρ x = .func (.func k) first cap) :
    (execOp ρ ⟨dst, .call { callee := .value x, args := args, argTypes := ats }, ty, pos, aft, g⟩).run P w = .ok (.enter k (first ++ vs ++ cap)) w := by
  have hk' := hk (first ++ vs ++ cap) w
  simp only [execOp, resolve, hf, Deferred.ofValue, invoke, h]
  simpa using hk'

/-- A function value is called. -/
def Invoke (P : Program) (fv : Value) (args : Array Value) (w : World) (R : Ending → World → Prop) : Prop :=
  ∃ k first cap, fv = .func (.func k) first cap ∧ (∀ args w, (callFunc k args).run P w = .ok (.enter k args) w) ∧ Calls P k (first ++ args ++ cap) w R
/-! interfaces, results in cells -/
theorem y_mki {t : Nat} {v : Value} (ht : P.concrete t = true) (hx : ρ x = v) : (execOp ρ ⟨dst, .makeInterface t x, ty, pos, aft, g⟩).run P w = .ok (.value (.iface t v)) w := by
  unfold Program.concrete at ht
  cases hd : P.underlying t with
  | none => simp [hd] at ht
  | some d => cases d <;> first | (simp [hd] at ht; done) | simp [execOp, hx, Instr.makeInterface, underlying, hd]
end

theorem body_cell {P : Program} {fn : Func} {R : Ending → World → Prop} {n : Nat} {f : Nat → Value} {w : World} {c t : Nat} {a : Addr} {v : Value} {td : TypeDesc} (hr : fn.results = #[.cell c t]) (ht : P.underlying t = some td)
    (hagg : (match td with | .struct _ | .array _ _ => true | _ => false) = false) (ha : (Fr n f).eval (.tmp c) = .pointer (some a)) (hc : w.cell? a = some v) (h : R (.returned v) w) : bodyPost P fn R .ret (Fr n f) w := by
  refine ⟨rfl, v, ?_, h⟩
  have e : (Fr n f).tmps[c]?.getD undef = .pointer (some a) := by rw [← Array.getD_eq_getD_getElem?]; exact ha
  have hia : (isAgg t).run P w = .ok false w := by
    unfold isAgg
    cases td <;> simp_all [underlying]
  simp [results, hr, e, asAddr, loadVar, hia, hc]
theorem body_cellAgg {P : Program} {fn : Func} {R : Ending → World → Prop} {n : Nat} {f : Nat → Value} {w : World} {c t : Nat} {a : Addr} {vs : List Value} {td : TypeDesc} {ti : TypeInfo} (hr : fn.results = #[.cell c t]) (ht : P.underlying t = some td)
    (hagg : (match td with | .struct _ | .array _ _ => true | _ => false) = true) (hi : P.info? t = some ti) (hz : ti.size = vs.length) (ha : (Fr n f).eval (.tmp c) = .pointer (some a)) (hc : CellsAt w a vs) (h : R (.returned (.agg vs.toArray)) w) : bodyPost P fn R .ret (Fr n f) w := by
  refine ⟨rfl, _, ?_, h⟩
  have e : (Fr n f).tmps[c]?.getD undef = .pointer (some a) := by rw [← Array.getD_eq_getD_getElem?]; exact ha
  have hia : (isAgg t).run P w = .ok true w := by
    unfold isAgg
    cases td <;> simp_all [underlying]
  have hl := run_loadCellsFrom (P := P) a vs w 0 #[] (fun j v hj => by rw [Nat.zero_add]; exact hc j v hj)
  simp [results, hr, e, asAddr, loadVar, hia, sizeOf, typeInfo, hi, hz, loadCells, hl]
end Go.Vc
