/- A part of the proof: lemmas. -/
import Derived.Test.YtdhdbdpemejpjaaVcTlbB
import Derived.Test.YtdhdbdpemejpjaaVcSort
import Derived.Shelf.Sort.Plain
import Derived.Shelf.Slices.In.SortNone
namespace Go.Proofs.Ytdhdbdpemejpjaa
open Go Go.Vc Go.Shelf
def Try.laysSort_ren : Go.Shelf.Ren := ⟨fun n => match n with | 189 => 22 | 125 => 36 | 257 => 35 | 128 => 52 | 129 => 53 | 294 => 43 | 295 => 44 | 296 => 45 | 297 => 46 | 298 => 47 | 299 => 48 | 216 => 49 | 300 => 50 | 301 => 51 | 328 => 55 | 329 => 56 | 330 => 57 | 331 => 58 | 332 => 59 | 215 => 60 | 343 => 61 | n => n, fun n => match n with | 28 => 23 | 3 => 3 | 46 => 78 | 0 => 0 | 51 => 32 | 53 => 97 | 4 => 4 | 183 => 88 | 182 => 87 | 131 => 93 | 5 => 5 | 9 => 9 | 218 => 99 | 222 => 103 | 228 => 105 | 229 => 106 | n => n, fun n => match n with | n => n⟩
theorem Try.laysSort : Go.Proofs.Lays.n189 Try.prog Try.laysSort_ren where
  mixed := by kernel_rfl
  f125 := Try.func36.trans (congrArg some (by kernel_rfl))
  f128 := Try.func52.trans (congrArg some (by kernel_rfl))
  f129 := Try.func53.trans (congrArg some (by kernel_rfl))
  f189 := Try.func22.trans (congrArg some (by kernel_rfl))
  f215 := Try.func60.trans (congrArg some (by kernel_rfl))
  f216 := Try.func49.trans (congrArg some (by kernel_rfl))
  f257 := Try.func35.trans (congrArg some (by kernel_rfl))
  f294 := Try.func43.trans (congrArg some (by kernel_rfl))
  f295 := Try.func44.trans (congrArg some (by kernel_rfl))
  f296 := Try.func45.trans (congrArg some (by kernel_rfl))
  f297 := Try.func46.trans (congrArg some (by kernel_rfl))
  f298 := Try.func47.trans (congrArg some (by kernel_rfl))
  f299 := Try.func48.trans (congrArg some (by kernel_rfl))
  f300 := Try.func50.trans (congrArg some (by kernel_rfl))
  f301 := Try.func51.trans (congrArg some (by kernel_rfl))
  f328 := Try.func55.trans (congrArg some (by kernel_rfl))
  f329 := Try.func56.trans (congrArg some (by kernel_rfl))
  f330 := Try.func57.trans (congrArg some (by kernel_rfl))
  f331 := Try.func58.trans (congrArg some (by kernel_rfl))
  f332 := Try.func59.trans (congrArg some (by kernel_rfl))
  f343 := Try.func61.trans (congrArg some (by kernel_rfl))
  t0 := Try.underlying0
  a0 := Try.isAgg0
  z0 := Try.sizeOf0
  v0 := Try.zeroValue0
  t3 := Try.underlying3
  a3 := Try.isAgg3
  z3 := Try.sizeOf3
  v3 := Try.zeroValue3
  t4 := Try.underlying4
  a4 := Try.isAgg4
  z4 := Try.sizeOf4
  v4 := Try.zeroValue4
  t5 := Try.underlying5
  a5 := Try.isAgg5
  z5 := Try.sizeOf5
  v5 := Try.zeroValue5
  t9 := Try.underlying9
  a9 := Try.isAgg9
  z9 := Try.sizeOf9
  v9 := Try.zeroValue9
  t28 := Try.underlying23
  a28 := Try.isAgg23
  z28 := Try.sizeOf23
  v28 := Try.zeroValue23
  t46 := Try.underlying78
  a46 := Try.isAgg78
  z46 := Try.sizeOf78
  v46 := Try.zeroValue78
  t51 := Try.underlying32
  a51 := Try.isAgg32
  z51 := Try.sizeOf32
  v51 := Try.zeroValue32
  t53 := Try.underlying97
  a53 := Try.isAgg97
  z53 := Try.sizeOf97
  v53 := Try.zeroValue97
  t131 := Try.underlying93
  a131 := Try.isAgg93
  z131 := Try.sizeOf93
  v131 := Try.zeroValue93
  t182 := Try.underlying87
  a182 := Try.isAgg87
  z182 := Try.sizeOf87
  v182 := Try.zeroValue87
  t183 := Try.underlying88
  a183 := Try.isAgg88
  z183 := Try.sizeOf88
  v183 := Try.zeroValue88
  t218 := Try.underlying99
  a218 := Try.isAgg99
  z218 := Try.sizeOf99
  v218 := Try.zeroValue99
  t222 := Try.underlying103
  a222 := Try.isAgg103
  z222 := Try.sizeOf103
  v222 := Try.zeroValue103
  t228 := Try.underlying105
  a228 := Try.isAgg105
  z228 := Try.sizeOf105
  v228 := Try.zeroValue105
  t229 := Try.underlying106
  a229 := Try.isAgg106
  z229 := Try.sizeOf106
  v229 := Try.zeroValue106
end Go.Proofs.Ytdhdbdpemejpjaa
namespace Go.Proofs.Ytdhdbdpemejpjaa
open Go Go.Vc
set_option maxRecDepth 100000
/-- A field of bits, held against no bits. -/
theorem arr_equal (a b c d e f g h : Bool) (w : World) : (Op.equal 62 (.agg #[.bool a, .bool b, .bool c, .bool d, .bool e, .bool f, .bool g, .bool h]) (.agg #[.bool false, .bool false, .bool false, .bool false, .bool false, .bool false, .bool false, .bool false])).run Try.prog w = .ok (!(a || (b || (c || (d || (e || (f || (g || h)))))))) w := by
  have hag : ∀ w : World, (isAgg 4).run Try.prog w = .ok false w := fun w => by simp [isAgg, underlying, Try.underlying4]
  have hq : ∀ (x y : Bool) (w : World), (Op.equalIn 9999 4 (.bool x) (.bool y)).run Try.prog w = .ok (x == y) w := fun x y w => by
    show (Op.equalIn (9998 + 1) 4 _ _).run Try.prog w = _
    unfold Op.equalIn; simp [underlying, Try.underlying4]
  show (Op.equalIn (9999 + 1) 62 _ _).run Try.prog w = _
  unfold Op.equalIn
  simp only [Sem.run_bind, underlying, run_program, Result.andThen_ok, Try.underlying62, Sem.run_pure]
  have hso : (sizeOf 4).run Try.prog w = .ok 1 w := by simp [sizeOf, typeInfo]; rfl
  have hp : ∀ (cs : Array Value) (i : Nat) (v : Value) (w : World), cs[i]? = some v → (part 4 cs i).run Try.prog w = .ok v w := fun cs i v w h => by
    unfold part
    rw [Sem.run_bind, hag]
    simp [h]
  have p0 : ∀ w : World, (part 4 #[.bool a, .bool b, .bool c, .bool d, .bool e, .bool f, .bool g, .bool h] 0).run Try.prog w = .ok (.bool a) w := fun w => hp _ _ _ w rfl
  have q0 : ∀ w : World, (part 4 #[.bool false, .bool false, .bool false, .bool false, .bool false, .bool false, .bool false, .bool false] 0).run Try.prog w = .ok (.bool false) w := fun w => hp _ _ _ w rfl
  have p1 : ∀ w : World, (part 4 #[.bool a, .bool b, .bool c, .bool d, .bool e, .bool f, .bool g, .bool h] 1).run Try.prog w = .ok (.bool b) w := fun w => hp _ _ _ w rfl
  have q1 : ∀ w : World, (part 4 #[.bool false, .bool false, .bool false, .bool false, .bool false, .bool false, .bool false, .bool false] 1).run Try.prog w = .ok (.bool false) w := fun w => hp _ _ _ w rfl
  have p2 : ∀ w : World, (part 4 #[.bool a, .bool b, .bool c, .bool d, .bool e, .bool f, .bool g, .bool h] 2).run Try.prog w = .ok (.bool c) w := fun w => hp _ _ _ w rfl
  have q2 : ∀ w : World, (part 4 #[.bool false, .bool false, .bool false, .bool false, .bool false, .bool false, .bool false, .bool false] 2).run Try.prog w = .ok (.bool false) w := fun w => hp _ _ _ w rfl
  have p3 : ∀ w : World, (part 4 #[.bool a, .bool b, .bool c, .bool d, .bool e, .bool f, .bool g, .bool h] 3).run Try.prog w = .ok (.bool d) w := fun w => hp _ _ _ w rfl
  have q3 : ∀ w : World, (part 4 #[.bool false, .bool false, .bool false, .bool false, .bool false, .bool false, .bool false, .bool false] 3).run Try.prog w = .ok (.bool false) w := fun w => hp _ _ _ w rfl
  have p4 : ∀ w : World, (part 4 #[.bool a, .bool b, .bool c, .bool d, .bool e, .bool f, .bool g, .bool h] 4).run Try.prog w = .ok (.bool e) w := fun w => hp _ _ _ w rfl
  have q4 : ∀ w : World, (part 4 #[.bool false, .bool false, .bool false, .bool false, .bool false, .bool false, .bool false, .bool false] 4).run Try.prog w = .ok (.bool false) w := fun w => hp _ _ _ w rfl
  have p5 : ∀ w : World, (part 4 #[.bool a, .bool b, .bool c, .bool d, .bool e, .bool f, .bool g, .bool h] 5).run Try.prog w = .ok (.bool f) w := fun w => hp _ _ _ w rfl
  have q5 : ∀ w : World, (part 4 #[.bool false, .bool false, .bool false, .bool false, .bool false, .bool false, .bool false, .bool false] 5).run Try.prog w = .ok (.bool false) w := fun w => hp _ _ _ w rfl
  have p6 : ∀ w : World, (part 4 #[.bool a, .bool b, .bool c, .bool d, .bool e, .bool f, .bool g, .bool h] 6).run Try.prog w = .ok (.bool g) w := fun w => hp _ _ _ w rfl
  have q6 : ∀ w : World, (part 4 #[.bool false, .bool false, .bool false, .bool false, .bool false, .bool false, .bool false, .bool false] 6).run Try.prog w = .ok (.bool false) w := fun w => hp _ _ _ w rfl
  have p7 : ∀ w : World, (part 4 #[.bool a, .bool b, .bool c, .bool d, .bool e, .bool f, .bool g, .bool h] 7).run Try.prog w = .ok (.bool h) w := fun w => hp _ _ _ w rfl
  have q7 : ∀ w : World, (part 4 #[.bool false, .bool false, .bool false, .bool false, .bool false, .bool false, .bool false, .bool false] 7).run Try.prog w = .ok (.bool false) w := fun w => hp _ _ _ w rfl
  rw [hso]
  simp only [Result.andThen_ok, Nat.mul_one]
  rw [Std.Legacy.Range.forIn_eq_forIn_range']
  simp only [Std.Legacy.Range.size, Nat.sub_zero, Nat.div_one, List.range', List.forIn_cons, List.forIn_nil, Sem.run_bind, p0, q0, hq, Result.andThen_ok, Nat.reduceAdd, Nat.zero_add]
  cases a
  case true => simp
  case false =>
    simp only [beq_self_eq_true, Bool.not_true, Bool.false_eq_true, if_false, Sem.run_pure, Result.andThen_ok, Sem.run_bind, p1, q1, hq]
    cases b
    case true => simp
    case false =>
      simp only [beq_self_eq_true, Bool.not_true, Bool.false_eq_true, if_false, Sem.run_pure, Result.andThen_ok, Sem.run_bind, p2, q2, hq]
      cases c
      case true => simp
      case false =>
        simp only [beq_self_eq_true, Bool.not_true, Bool.false_eq_true, if_false, Sem.run_pure, Result.andThen_ok, Sem.run_bind, p3, q3, hq]
        cases d
        case true => simp
        case false =>
          simp only [beq_self_eq_true, Bool.not_true, Bool.false_eq_true, if_false, Sem.run_pure, Result.andThen_ok, Sem.run_bind, p4, q4, hq]
          cases e
          case true => simp
          case false =>
            simp only [beq_self_eq_true, Bool.not_true, Bool.false_eq_true, if_false, Sem.run_pure, Result.andThen_ok, Sem.run_bind, p5, q5, hq]
            cases f
            case true => simp
            case false =>
              simp only [beq_self_eq_true, Bool.not_true, Bool.false_eq_true, if_false, Sem.run_pure, Result.andThen_ok, Sem.run_bind, p6, q6, hq]
              cases g
              case true => simp
              case false =>
                simp only [beq_self_eq_true, Bool.not_true, Bool.false_eq_true, if_false, Sem.run_pure, Result.andThen_ok, Sem.run_bind, p7, q7, hq]
                cases h
                case true => simp
                case false =>
                  simp only [beq_self_eq_true, Bool.not_true, Bool.false_eq_true, if_false, Sem.run_pure, Result.andThen_ok]
                  simp
end Go.Proofs.Ytdhdbdpemejpjaa
