/-
  Maps whose keys are structs of two or three plain fields.
-/
import Derived.Test.YtmffnjdndhkbhaaVcHeap
namespace Go.Vc
open Go
set_option linter.unusedVariables false

/-- Are two plain values the same? -/
def plainB : Value → Value → Bool
  | .int _ a, .int _ b => a == b
  | .string a, .string b => a == b
  | .bool a, .bool b => a == b
  | _, _ => false
/-- A field of a plain type that stands in one cell. -/
structure PlainAt (P : Program) (f : Field) (i : Nat) : Prop where
  name : f.name ≠ "_"
  off : f.offset = i
  ty : P.underlying f.type = some .bool ∨ P.underlying f.type = some .string ∨ ∃ k, P.underlying f.type = some (.int k)
def Fits (P : Program) (t : TypeId) : Value → Prop
  | .int k _ => P.underlying t = some (.int k)
  | .string _ => P.underlying t = some .string
  | .bool _ => P.underlying t = some .bool
  | _ => False
section
variable {P : Program} {w : World}
theorem isAgg_plain {t : TypeId} {v : Value} (h : Fits P t v) : (isAgg t).run P w = .ok false w := by
  cases v <;> simp only [Fits] at h <;> simp [isAgg, underlying, h]
theorem part_plain {t : TypeId} {v : Value} (h : Fits P t v) {cs : Array Value} {i : Nat} (hc : cs[i]? = some v) : (part t cs i).run P w = .ok v w := by
  unfold part
  simp [isAgg_plain h, hc]
theorem check_plain {t : TypeId} {v : Value} (h : Fits P t v) (e : Bool) (n : Nat) : (Instr.checkKey e (n + 1) t v).run P w = .ok () w := by
  unfold Instr.checkKey
  cases v <;> simp only [Fits] at h <;> simp [underlying, h]
theorem equal_plain {t : TypeId} {v u : Value} (h : Fits P t v) (h2 : Fits P t u) (n : Nat) : (Op.equalIn (n + 1) t v u).run P w = .ok (plainB v u) w := by
  unfold Op.equalIn
  cases v <;> simp only [Fits] at h <;> cases u <;> simp only [Fits, h] at h2 <;> first | (cases h2; done) | skip
  all_goals first
    | (simp [underlying, h, plainB]; done)
    | (simp only [Option.some.injEq, TypeDesc.int.injEq] at h2; subst h2; simp [underlying, h, plainB]; done)
theorem bytes_beq (a b : ByteArray) : (a == b) = decide (a = b) := by
  cases a with
  | mk a =>
    cases b with
    | mk b =>
      show (a == b) = _
      by_cases h : a = b <;> simp [h]
theorem plainB_self {t : TypeId} {v : Value} (h : Fits P t v) : plainB v v = true := by
  cases v <;> simp only [Fits] at h <;> simp [plainB, bytes_beq]

theorem key_equal2 {K : TypeId} {f0 f1 : Field} (hK : P.underlying K = some (.struct #[f0, f1])) (hst : P.stoodInHeld K = false) (n0 : f0.name ≠ "_") (n1 : f1.name ≠ "_") (o0 : f0.offset = 0) (o1 : f1.offset = 1)
    {a b a' b' : Value} (ha : Fits P f0.type a) (ha' : Fits P f0.type a') (hb : Fits P f1.type b) (hb' : Fits P f1.type b') :
    (Op.equal K (.agg #[a, b]) (.agg #[a', b'])).run P w = .ok (plainB a a' && plainB b b') w := by
  show (Op.equalIn (9999 + 1) K _ _).run P w = _
  have p1 : (part f0.type #[a, b] f0.offset).run P w = .ok a w := part_plain ha (by rw [o0]; rfl)
  have p2 : (part f0.type #[a', b'] f0.offset).run P w = .ok a' w := part_plain ha' (by rw [o0]; rfl)
  have p3 : (part f1.type #[a, b] f1.offset).run P w = .ok b w := part_plain hb (by rw [o1]; rfl)
  have p4 : (part f1.type #[a', b'] f1.offset).run P w = .ok b' w := part_plain hb' (by rw [o1]; rfl)
  have q1 : (Op.equalIn 9999 f0.type a a').run P w = .ok (plainB a a') w := equal_plain ha ha' 9998
  have q2 : (Op.equalIn 9999 f1.type b b').run P w = .ok (plainB b b') w := equal_plain hb hb' 9998
  unfold Op.equalIn
  simp only [Sem.run_bind, underlying, run_program, Result.andThen_ok, hK, Sem.run_pure]
  simp only [hst, Bool.false_eq_true, if_false, n0, n1, ne_eq, not_false_eq_true, if_true, Array.forIn_toList.symm, List.forIn_cons, List.forIn_nil, Sem.run_bind, p1, p2, q1, Result.andThen_ok]
  cases h1 : plainB a a' with
  | false => simp
  | true =>
    simp only [Bool.not_true, Bool.false_eq_true, if_false, Sem.run_pure, Result.andThen_ok, Sem.run_bind, p3, p4, q2]
    cases h2 : plainB b b' <;> simp

theorem key_equal3 {K : TypeId} {f0 f1 f2 : Field} (hK : P.underlying K = some (.struct #[f0, f1, f2])) (hst : P.stoodInHeld K = false) (n0 : f0.name ≠ "_") (n1 : f1.name ≠ "_") (n2 : f2.name ≠ "_") (o0 : f0.offset = 0) (o1 : f1.offset = 1) (o2 : f2.offset = 2)
    {a b c a' b' c' : Value} (ha : Fits P f0.type a) (ha' : Fits P f0.type a') (hb : Fits P f1.type b) (hb' : Fits P f1.type b') (hc : Fits P f2.type c) (hc' : Fits P f2.type c') :
    (Op.equal K (.agg #[a, b, c]) (.agg #[a', b', c'])).run P w = .ok (plainB a a' && (plainB b b' && plainB c c')) w := by
  show (Op.equalIn (9999 + 1) K _ _).run P w = _
  have p1 : (part f0.type #[a, b, c] f0.offset).run P w = .ok a w := part_plain ha (by rw [o0]; rfl)
  have p2 : (part f0.type #[a', b', c'] f0.offset).run P w = .ok a' w := part_plain ha' (by rw [o0]; rfl)
  have p3 : (part f1.type #[a, b, c] f1.offset).run P w = .ok b w := part_plain hb (by rw [o1]; rfl)
  have p4 : (part f1.type #[a', b', c'] f1.offset).run P w = .ok b' w := part_plain hb' (by rw [o1]; rfl)
  have p5 : (part f2.type #[a, b, c] f2.offset).run P w = .ok c w := part_plain hc (by rw [o2]; rfl)
  have p6 : (part f2.type #[a', b', c'] f2.offset).run P w = .ok c' w := part_plain hc' (by rw [o2]; rfl)
  have q1 : (Op.equalIn 9999 f0.type a a').run P w = .ok (plainB a a') w := equal_plain ha ha' 9998
  have q2 : (Op.equalIn 9999 f1.type b b').run P w = .ok (plainB b b') w := equal_plain hb hb' 9998
  have q3 : (Op.equalIn 9999 f2.type c c').run P w = .ok (plainB c c') w := equal_plain hc hc' 9998
  unfold Op.equalIn
  simp only [Sem.run_bind, underlying, run_program, Result.andThen_ok, hK, Sem.run_pure]
  simp only [hst, Bool.false_eq_true, if_false, n0, n1, n2, ne_eq, not_false_eq_true, if_true, Array.forIn_toList.symm, List.forIn_cons, List.forIn_nil, Sem.run_bind, p1, p2, q1, Result.andThen_ok]
  cases h1 : plainB a a' with
  | false => simp
  | true =>
    simp only [Bool.not_true, Bool.false_eq_true, if_false, Sem.run_pure, Result.andThen_ok, Sem.run_bind, p3, p4, q2]
    cases h2 : plainB b b' with
    | false => simp
    | true =>
      simp only [Bool.not_true, Bool.false_eq_true, if_false, Sem.run_pure, Result.andThen_ok, Sem.run_bind, p5, p6, q3]
      cases h3 : plainB c c' <;> simp

variable {α : Type} [DecidableEq α] {enc : α → Value}
/-- What a key's type owes. -/
theorem keyLaw_of {K : TypeId} {fs : Array Field} (hK : P.underlying K = some (.struct fs)) (hagg : ∀ a, ∃ cs, enc a = .agg cs)
    (hchk : ∀ (e : Bool) (w : World) (a : α), (Instr.checkKey e 10000 K (enc a)).run P w = .ok () w)
    (heq : ∀ (w : World) (a b : α), (Op.equal K (enc a) (enc b)).run P w = .ok (decide (a = b)) w)
    (hst : ∀ a, Instr.sameBits 10000 (enc a) (enc a) = true) : KeyLaw enc P K where
  check := hchk
  stays w a := by
    unfold Instr.keyThatStays
    rw [if_pos (hst a)]; simp
  find w a l := by
    have key : ∀ (l : List (Ent α)) (i : Nat), (Instr.findAsking K (enc a) (l.map (toEnt enc)) i).run P w = .ok (afind a l i) w := by
      intro l
      induction l with
      | nil => intro i; simp [Instr.findAsking, afind]
      | cons e l ih =>
        intro i
        simp only [List.map_cons, Instr.findAsking, Sem.run_bind, toEnt, heq, Result.andThen_ok, afind]
        by_cases h : a = e.1
        · simp [h]
        · simp only [h, decide_false, Bool.false_eq_true, if_false]; exact ih (i + 1)
    unfold Instr.findKey
    simp only [Sem.run_bind, underlying, run_program, Result.andThen_ok, hK, Sem.run_pure]
    cases l with
    | nil => simp [Instr.findNow, afind]
    | cons e l =>
      obtain ⟨cs, hcs⟩ := hagg a
      have hn : Instr.findNow (.struct fs) (enc a) ((e :: l).map (toEnt enc)) 0 = none := by
        rw [List.map_cons]
        unfold Instr.findNow
        rw [hcs]; rfl
      rw [hn]
      exact key (e :: l) 0
theorem same_plain {t : TypeId} {v : Value} (h : Fits P t v) (n : Nat) : Instr.sameBits n v v = true := by
  cases v <;> simp only [Fits] at h <;> cases n <;> simp [Instr.sameBits, bytes_beq]
theorem keyLaw2 {K : TypeId} {f0 f1 : Field} (hK : P.underlying K = some (.struct #[f0, f1])) (hst : P.stoodInHeld K = false) (n0 : f0.name ≠ "_") (n1 : f1.name ≠ "_") (o0 : f0.offset = 0) (o1 : f1.offset = 1) {g0 g1 : α → Value}
    (he : ∀ a, enc a = .agg #[g0 a, g1 a]) (t0 : ∀ a, Fits P f0.type (g0 a)) (t1 : ∀ a, Fits P f1.type (g1 a)) (inj : ∀ a b, (plainB (g0 a) (g0 b) && plainB (g1 a) (g1 b)) = decide (a = b)) : KeyLaw enc P K := by
  refine keyLaw_of hK (fun a => ⟨_, he a⟩) (fun e w a => ?_) (fun w a b => ?_) fun a => ?_
  · rw [he]
    show (Instr.checkKey e (9999 + 1) K _).run P w = _
    have p1 : (part f0.type #[g0 a, g1 a] f0.offset).run P w = .ok (g0 a) w := part_plain (t0 a) (by rw [o0]; rfl)
    have p2 : (part f1.type #[g0 a, g1 a] f1.offset).run P w = .ok (g1 a) w := part_plain (t1 a) (by rw [o1]; rfl)
    have q1 : (Instr.checkKey e 9999 f0.type (g0 a)).run P w = .ok () w := check_plain (t0 a) e 9998
    have q2 : (Instr.checkKey e 9999 f1.type (g1 a)).run P w = .ok () w := check_plain (t1 a) e 9998
    unfold Instr.checkKey
    simp only [Sem.run_bind, underlying, run_program, Result.andThen_ok, hK, Sem.run_pure]
    simp only [n0, n1, ne_eq, not_false_eq_true, if_true, Array.forIn_toList.symm, List.forIn_cons, List.forIn_nil, Sem.run_bind, p1, p2, q1, q2, Result.andThen_ok, Sem.run_pure]
  · rw [he, he, key_equal2 hK hst n0 n1 o0 o1 (t0 a) (t0 b) (t1 a) (t1 b), inj]
  · rw [he]
    show Instr.sameBits (9999 + 1) _ _ = true
    unfold Instr.sameBits
    simp [same_plain (t0 a), same_plain (t1 a)]
theorem keyLaw3 {K : TypeId} {f0 f1 f2 : Field} (hK : P.underlying K = some (.struct #[f0, f1, f2])) (hst : P.stoodInHeld K = false) (n0 : f0.name ≠ "_") (n1 : f1.name ≠ "_") (n2 : f2.name ≠ "_") (o0 : f0.offset = 0) (o1 : f1.offset = 1) (o2 : f2.offset = 2) {g0 g1 g2 : α → Value}
    (he : ∀ a, enc a = .agg #[g0 a, g1 a, g2 a]) (t0 : ∀ a, Fits P f0.type (g0 a)) (t1 : ∀ a, Fits P f1.type (g1 a)) (t2 : ∀ a, Fits P f2.type (g2 a)) (inj : ∀ a b, (plainB (g0 a) (g0 b) && (plainB (g1 a) (g1 b) && plainB (g2 a) (g2 b))) = decide (a = b)) : KeyLaw enc P K := by
  refine keyLaw_of hK (fun a => ⟨_, he a⟩) (fun e w a => ?_) (fun w a b => ?_) fun a => ?_
  · rw [he]
    show (Instr.checkKey e (9999 + 1) K _).run P w = _
    have p1 : (part f0.type #[g0 a, g1 a, g2 a] f0.offset).run P w = .ok (g0 a) w := part_plain (t0 a) (by rw [o0]; rfl)
    have p2 : (part f1.type #[g0 a, g1 a, g2 a] f1.offset).run P w = .ok (g1 a) w := part_plain (t1 a) (by rw [o1]; rfl)
    have p3 : (part f2.type #[g0 a, g1 a, g2 a] f2.offset).run P w = .ok (g2 a) w := part_plain (t2 a) (by rw [o2]; rfl)
    have q1 : (Instr.checkKey e 9999 f0.type (g0 a)).run P w = .ok () w := check_plain (t0 a) e 9998
    have q2 : (Instr.checkKey e 9999 f1.type (g1 a)).run P w = .ok () w := check_plain (t1 a) e 9998
    have q3 : (Instr.checkKey e 9999 f2.type (g2 a)).run P w = .ok () w := check_plain (t2 a) e 9998
    unfold Instr.checkKey
    simp only [Sem.run_bind, underlying, run_program, Result.andThen_ok, hK, Sem.run_pure]
    simp only [n0, n1, n2, ne_eq, not_false_eq_true, if_true, Array.forIn_toList.symm, List.forIn_cons, List.forIn_nil, Sem.run_bind, p1, p2, p3, q1, q2, q3, Result.andThen_ok, Sem.run_pure]
  · rw [he, he, key_equal3 hK hst n0 n1 n2 o0 o1 o2 (t0 a) (t0 b) (t1 a) (t1 b) (t2 a) (t2 b), inj]
  · rw [he]
    show Instr.sameBits (9999 + 1) _ _ = true
    unfold Instr.sameBits
    simp [same_plain (t0 a), same_plain (t1 a), same_plain (t2 a)]
end
end Go.Vc
