/- For each Go function: what must be shown of it, and that this is enough. Printed by a program over the seat's translation. -/
import Derived.Test.YtimokldcmpbjcaaDoorChecked
import Derived.Test.YtimokldcmpbjcaaDoorVcOps
namespace Go.Proofs.YtimokldcmpbjcaaDoor
open Go Go.Vc
set_option maxRecDepth 100000
set_option linter.unusedVariables false
set_option maxHeartbeats 2000000
theorem Tryd.mixed : Tryd.prog.follows .mixedOrders = true := by kernel_rfl


theorem Tryd.fa44_0 {w : World} {ρ : Operand → Value} {dst : Option Nat} {ty : Nat} {pos : String} {aft : Array Edge} {g : Option (Nat × Bool)} {x : Operand} {b o : Nat} (hx : ρ x = .pointer (some ⟨b, o, none⟩)) : (execOp ρ ⟨dst, .fieldAddr 44 x 0, ty, pos, aft, g⟩).run Tryd.prog w = .ok (.value (.pointer (some ⟨b, o, none⟩))) w :=
  y_fa (off := 0) (ft := 3) Tryd.underlying44 (by kernel_rfl) Tryd.type3 (sz := 0) (by kernel_rfl) hx
theorem Tryd.fa44_1 {w : World} {ρ : Operand → Value} {dst : Option Nat} {ty : Nat} {pos : String} {aft : Array Edge} {g : Option (Nat × Bool)} {x : Operand} {b o : Nat} (hx : ρ x = .pointer (some ⟨b, o, none⟩)) : (execOp ρ ⟨dst, .fieldAddr 44 x 1, ty, pos, aft, g⟩).run Tryd.prog w = .ok (.value (.pointer (some ⟨b, o + 1, none⟩))) w :=
  y_fa (off := 1) (ft := 42) Tryd.underlying44 (by kernel_rfl) Tryd.type42 (sz := 1) (by kernel_rfl) hx
theorem Tryd.fa44_2 {w : World} {ρ : Operand → Value} {dst : Option Nat} {ty : Nat} {pos : String} {aft : Array Edge} {g : Option (Nat × Bool)} {x : Operand} {b o : Nat} (hx : ρ x = .pointer (some ⟨b, o, none⟩)) : (execOp ρ ⟨dst, .fieldAddr 44 x 2, ty, pos, aft, g⟩).run Tryd.prog w = .ok (.value (.pointer (some ⟨b, o + 3, none⟩))) w :=
  y_fa (off := 3) (ft := 3) Tryd.underlying44 (by kernel_rfl) Tryd.type3 (sz := 0) (by kernel_rfl) hx
theorem Tryd.fa42_0 {w : World} {ρ : Operand → Value} {dst : Option Nat} {ty : Nat} {pos : String} {aft : Array Edge} {g : Option (Nat × Bool)} {x : Operand} {b o : Nat} (hx : ρ x = .pointer (some ⟨b, o, none⟩)) : (execOp ρ ⟨dst, .fieldAddr 42 x 0, ty, pos, aft, g⟩).run Tryd.prog w = .ok (.value (.pointer (some ⟨b, o, none⟩))) w :=
  y_fa (off := 0) (ft := 3) Tryd.underlying42 (by kernel_rfl) Tryd.type3 (sz := 0) (by kernel_rfl) hx
theorem Tryd.fa40_3 {w : World} {ρ : Operand → Value} {dst : Option Nat} {ty : Nat} {pos : String} {aft : Array Edge} {g : Option (Nat × Bool)} {x : Operand} {b o : Nat} (hx : ρ x = .pointer (some ⟨b, o, none⟩)) : (execOp ρ ⟨dst, .fieldAddr 40 x 3, ty, pos, aft, g⟩).run Tryd.prog w = .ok (.value (.pointer (some ⟨b, o + 3, none⟩))) w :=
  y_fa (off := 3) (ft := 38) Tryd.underlying40 (by kernel_rfl) Tryd.type38 (sz := 0) (by kernel_rfl) hx
theorem Tryd.fa40_1 {w : World} {ρ : Operand → Value} {dst : Option Nat} {ty : Nat} {pos : String} {aft : Array Edge} {g : Option (Nat × Bool)} {x : Operand} {b o : Nat} (hx : ρ x = .pointer (some ⟨b, o, none⟩)) : (execOp ρ ⟨dst, .fieldAddr 40 x 1, ty, pos, aft, g⟩).run Tryd.prog w = .ok (.value (.pointer (some ⟨b, o + 1, none⟩))) w :=
  y_fa (off := 1) (ft := 37) Tryd.underlying40 (by kernel_rfl) Tryd.type37 (sz := 0) (by kernel_rfl) hx
theorem Tryd.fa54_0 {w : World} {ρ : Operand → Value} {dst : Option Nat} {ty : Nat} {pos : String} {aft : Array Edge} {g : Option (Nat × Bool)} {x : Operand} {b o : Nat} (hx : ρ x = .pointer (some ⟨b, o, none⟩)) : (execOp ρ ⟨dst, .fieldAddr 54 x 0, ty, pos, aft, g⟩).run Tryd.prog w = .ok (.value (.pointer (some ⟨b, o, none⟩))) w :=
  y_fa (off := 0) (ft := 42) Tryd.underlying54 (by kernel_rfl) Tryd.type42 (sz := 1) (by kernel_rfl) hx
theorem Tryd.fa75_1 {w : World} {ρ : Operand → Value} {dst : Option Nat} {ty : Nat} {pos : String} {aft : Array Edge} {g : Option (Nat × Bool)} {x : Operand} {b o : Nat} (hx : ρ x = .pointer (some ⟨b, o, none⟩)) : (execOp ρ ⟨dst, .fieldAddr 75 x 1, ty, pos, aft, g⟩).run Tryd.prog w = .ok (.value (.pointer (some ⟨b, o + 1, none⟩))) w :=
  y_fa (off := 1) (ft := 72) Tryd.underlying75 (by kernel_rfl) Tryd.type72 (sz := 0) (by kernel_rfl) hx
theorem Tryd.fa78_2 {w : World} {ρ : Operand → Value} {dst : Option Nat} {ty : Nat} {pos : String} {aft : Array Edge} {g : Option (Nat × Bool)} {x : Operand} {b o : Nat} (hx : ρ x = .pointer (some ⟨b, o, none⟩)) : (execOp ρ ⟨dst, .fieldAddr 78 x 2, ty, pos, aft, g⟩).run Tryd.prog w = .ok (.value (.pointer (some ⟨b, o + 2, none⟩))) w :=
  y_fa (off := 2) (ft := 76) Tryd.underlying78 (by kernel_rfl) Tryd.type76 (sz := 0) (by kernel_rfl) hx
theorem Tryd.fa80_0 {w : World} {ρ : Operand → Value} {dst : Option Nat} {ty : Nat} {pos : String} {aft : Array Edge} {g : Option (Nat × Bool)} {x : Operand} {b o : Nat} (hx : ρ x = .pointer (some ⟨b, o, none⟩)) : (execOp ρ ⟨dst, .fieldAddr 80 x 0, ty, pos, aft, g⟩).run Tryd.prog w = .ok (.value (.pointer (some ⟨b, o, none⟩))) w :=
  y_fa (off := 0) (ft := 3) Tryd.underlying80 (by kernel_rfl) Tryd.type3 (sz := 0) (by kernel_rfl) hx
theorem Tryd.fa54_1 {w : World} {ρ : Operand → Value} {dst : Option Nat} {ty : Nat} {pos : String} {aft : Array Edge} {g : Option (Nat × Bool)} {x : Operand} {b o : Nat} (hx : ρ x = .pointer (some ⟨b, o, none⟩)) : (execOp ρ ⟨dst, .fieldAddr 54 x 1, ty, pos, aft, g⟩).run Tryd.prog w = .ok (.value (.pointer (some ⟨b, o + 2, none⟩))) w :=
  y_fa (off := 2) (ft := 3) Tryd.underlying54 (by kernel_rfl) Tryd.type3 (sz := 0) (by kernel_rfl) hx
theorem Tryd.fa78_3 {w : World} {ρ : Operand → Value} {dst : Option Nat} {ty : Nat} {pos : String} {aft : Array Edge} {g : Option (Nat × Bool)} {x : Operand} {b o : Nat} (hx : ρ x = .pointer (some ⟨b, o, none⟩)) : (execOp ρ ⟨dst, .fieldAddr 78 x 3, ty, pos, aft, g⟩).run Tryd.prog w = .ok (.value (.pointer (some ⟨b, o + 3, none⟩))) w :=
  y_fa (off := 3) (ft := 51) Tryd.underlying78 (by kernel_rfl) Tryd.type51 (sz := 0) (by kernel_rfl) hx
theorem Tryd.fa78_1 {w : World} {ρ : Operand → Value} {dst : Option Nat} {ty : Nat} {pos : String} {aft : Array Edge} {g : Option (Nat × Bool)} {x : Operand} {b o : Nat} (hx : ρ x = .pointer (some ⟨b, o, none⟩)) : (execOp ρ ⟨dst, .fieldAddr 78 x 1, ty, pos, aft, g⟩).run Tryd.prog w = .ok (.value (.pointer (some ⟨b, o + 1, none⟩))) w :=
  y_fa (off := 1) (ft := 3) Tryd.underlying78 (by kernel_rfl) Tryd.type3 (sz := 0) (by kernel_rfl) hx
theorem Tryd.fa78_4 {w : World} {ρ : Operand → Value} {dst : Option Nat} {ty : Nat} {pos : String} {aft : Array Edge} {g : Option (Nat × Bool)} {x : Operand} {b o : Nat} (hx : ρ x = .pointer (some ⟨b, o, none⟩)) : (execOp ρ ⟨dst, .fieldAddr 78 x 4, ty, pos, aft, g⟩).run Tryd.prog w = .ok (.value (.pointer (some ⟨b, o + 4, none⟩))) w :=
  y_fa (off := 4) (ft := 3) Tryd.underlying78 (by kernel_rfl) Tryd.type3 (sz := 0) (by kernel_rfl) hx
theorem Tryd.fa40_0 {w : World} {ρ : Operand → Value} {dst : Option Nat} {ty : Nat} {pos : String} {aft : Array Edge} {g : Option (Nat × Bool)} {x : Operand} {b o : Nat} (hx : ρ x = .pointer (some ⟨b, o, none⟩)) : (execOp ρ ⟨dst, .fieldAddr 40 x 0, ty, pos, aft, g⟩).run Tryd.prog w = .ok (.value (.pointer (some ⟨b, o, none⟩))) w :=
  y_fa (off := 0) (ft := 3) Tryd.underlying40 (by kernel_rfl) Tryd.type3 (sz := 0) (by kernel_rfl) hx
theorem Tryd.fa40_2 {w : World} {ρ : Operand → Value} {dst : Option Nat} {ty : Nat} {pos : String} {aft : Array Edge} {g : Option (Nat × Bool)} {x : Operand} {b o : Nat} (hx : ρ x = .pointer (some ⟨b, o, none⟩)) : (execOp ρ ⟨dst, .fieldAddr 40 x 2, ty, pos, aft, g⟩).run Tryd.prog w = .ok (.value (.pointer (some ⟨b, o + 2, none⟩))) w :=
  y_fa (off := 2) (ft := 3) Tryd.underlying40 (by kernel_rfl) Tryd.type3 (sz := 0) (by kernel_rfl) hx
theorem Tryd.fa78_0 {w : World} {ρ : Operand → Value} {dst : Option Nat} {ty : Nat} {pos : String} {aft : Array Edge} {g : Option (Nat × Bool)} {x : Operand} {b o : Nat} (hx : ρ x = .pointer (some ⟨b, o, none⟩)) : (execOp ρ ⟨dst, .fieldAddr 78 x 0, ty, pos, aft, g⟩).run Tryd.prog w = .ok (.value (.pointer (some ⟨b, o, none⟩))) w :=
  y_fa (off := 0) (ft := 30) Tryd.underlying78 (by kernel_rfl) Tryd.type30 (sz := 0) (by kernel_rfl) hx
theorem Tryd.fa75_3 {w : World} {ρ : Operand → Value} {dst : Option Nat} {ty : Nat} {pos : String} {aft : Array Edge} {g : Option (Nat × Bool)} {x : Operand} {b o : Nat} (hx : ρ x = .pointer (some ⟨b, o, none⟩)) : (execOp ρ ⟨dst, .fieldAddr 75 x 3, ty, pos, aft, g⟩).run Tryd.prog w = .ok (.value (.pointer (some ⟨b, o + 3, none⟩))) w :=
  y_fa (off := 3) (ft := 73) Tryd.underlying75 (by kernel_rfl) Tryd.type73 (sz := 0) (by kernel_rfl) hx
theorem Tryd.fa86_0 {w : World} {ρ : Operand → Value} {dst : Option Nat} {ty : Nat} {pos : String} {aft : Array Edge} {g : Option (Nat × Bool)} {x : Operand} {b o : Nat} (hx : ρ x = .pointer (some ⟨b, o, none⟩)) : (execOp ρ ⟨dst, .fieldAddr 86 x 0, ty, pos, aft, g⟩).run Tryd.prog w = .ok (.value (.pointer (some ⟨b, o, none⟩))) w :=
  y_fa (off := 0) (ft := 3) Tryd.underlying86 (by kernel_rfl) Tryd.type3 (sz := 0) (by kernel_rfl) hx
theorem Tryd.fa91_0 {w : World} {ρ : Operand → Value} {dst : Option Nat} {ty : Nat} {pos : String} {aft : Array Edge} {g : Option (Nat × Bool)} {x : Operand} {b o : Nat} (hx : ρ x = .pointer (some ⟨b, o, none⟩)) : (execOp ρ ⟨dst, .fieldAddr 91 x 0, ty, pos, aft, g⟩).run Tryd.prog w = .ok (.value (.pointer (some ⟨b, o, none⟩))) w :=
  y_fa (off := 0) (ft := 89) Tryd.underlying91 (by kernel_rfl) Tryd.type89 (sz := 0) (by kernel_rfl) hx
theorem Tryd.fa97_0 {w : World} {ρ : Operand → Value} {dst : Option Nat} {ty : Nat} {pos : String} {aft : Array Edge} {g : Option (Nat × Bool)} {x : Operand} {b o : Nat} (hx : ρ x = .pointer (some ⟨b, o, none⟩)) : (execOp ρ ⟨dst, .fieldAddr 97 x 0, ty, pos, aft, g⟩).run Tryd.prog w = .ok (.value (.pointer (some ⟨b, o, none⟩))) w :=
  y_fa (off := 0) (ft := 3) Tryd.underlying97 (by kernel_rfl) Tryd.type3 (sz := 0) (by kernel_rfl) hx
theorem Tryd.fa54_2 {w : World} {ρ : Operand → Value} {dst : Option Nat} {ty : Nat} {pos : String} {aft : Array Edge} {g : Option (Nat × Bool)} {x : Operand} {b o : Nat} (hx : ρ x = .pointer (some ⟨b, o, none⟩)) : (execOp ρ ⟨dst, .fieldAddr 54 x 2, ty, pos, aft, g⟩).run Tryd.prog w = .ok (.value (.pointer (some ⟨b, o + 3, none⟩))) w :=
  y_fa (off := 3) (ft := 3) Tryd.underlying54 (by kernel_rfl) Tryd.type3 (sz := 0) (by kernel_rfl) hx
theorem Tryd.fa75_2 {w : World} {ρ : Operand → Value} {dst : Option Nat} {ty : Nat} {pos : String} {aft : Array Edge} {g : Option (Nat × Bool)} {x : Operand} {b o : Nat} (hx : ρ x = .pointer (some ⟨b, o, none⟩)) : (execOp ρ ⟨dst, .fieldAddr 75 x 2, ty, pos, aft, g⟩).run Tryd.prog w = .ok (.value (.pointer (some ⟨b, o + 2, none⟩))) w :=
  y_fa (off := 2) (ft := 3) Tryd.underlying75 (by kernel_rfl) Tryd.type3 (sz := 0) (by kernel_rfl) hx
theorem Tryd.fa75_0 {w : World} {ρ : Operand → Value} {dst : Option Nat} {ty : Nat} {pos : String} {aft : Array Edge} {g : Option (Nat × Bool)} {x : Operand} {b o : Nat} (hx : ρ x = .pointer (some ⟨b, o, none⟩)) : (execOp ρ ⟨dst, .fieldAddr 75 x 0, ty, pos, aft, g⟩).run Tryd.prog w = .ok (.value (.pointer (some ⟨b, o, none⟩))) w :=
  y_fa (off := 0) (ft := 38) Tryd.underlying75 (by kernel_rfl) Tryd.type38 (sz := 0) (by kernel_rfl) hx

/-- parapet/parapetlaw19.NamecSplits -/
def Vc3 (a_path1 : ByteArray) (w : World) (R : Ending → World → Prop) : Prop :=
  (Calls Tryd.prog 7 #[.string a_path1] w fun e w4 => ∃ x2 : Option Addr, ∃ x2l : Nat, ∃ x2c : Nat, ∃ x3 : Int, e = .returned (.tuple #[.slice x2 x2l x2c, .int .i64 x3]) ∧ (Calls Tryd.prog 8 #[.string a_path1] w4 fun e w8 => ∃ x6 : Option Addr, ∃ x6l : Nat, ∃ x6c : Nat, ∃ x7 : Int, e = .returned (.tuple #[.slice x6 x6l x6c, .int .i64 x7]) ∧ (Calls Tryd.prog 9 #[] w8 fun e w11 => ∃ x10 : Bool, e = .returned (.bool x10) ∧ (((x10 = true) → (Calls Tryd.prog 10 #[.slice x2 x2l x2c, .slice x6 x6l x6c] w11 fun e w14 => ∃ x13 : Bool, e = .returned (.bool x13) ∧ (((x13 = true) → R (.returned (.bool (decide ((x3 : Int) = x7)))) w14) ∧ ((x13 = false) → R (.returned (.bool false)) w14)))) ∧ ((x10 = false) → R (.returned (.bool false)) w11)))))

theorem vc3 {a_path1 : ByteArray} {w : World} {R : Ending → World → Prop} (H : Vc3 a_path1 w R) : Calls Tryd.prog 3 #[.string a_path1] w R := by
  unfold Vc3 at H
  refine calls_start [.string a_path1] Tryd.func3 rfl Tryd.ntmps3 rfl ?_
  refine c_seq ?_
  intro K1 hK1
  refine c_region ?_
  refine L_val (v := .bool false) (y_assign ev_c) ?_
  refine l_nil ?_
  refine then_norm ?_
  refine hK1 _ _ ?_
  clear hK1
  refine c_seq ?_
  intro K2 hK2
  refine c_region ?_
  refine L_val (v := .string a_path1) (y_move (ev_tv rfl rfl)) ?_
  refine L_call (y_call Tryd.call7 (map_ev1 (ev_tv rfl rfl)) ev_f) (Calls.mono H ?_)
  clear H
  rintro _ w4 ⟨x2, x2l, x2c, x3, rfl, H⟩
  refine ⟨_, rfl, ?_⟩
  refine L_val (v := .tuple #[.slice x2 x2l x2c, .int .i64 x3]) (y_move (ev_tv rfl rfl)) ?_
  refine L_val (v := .slice x2 x2l x2c) (y_extract (ev_tv rfl rfl) rfl) ?_
  refine L_val (v := .int .i64 x3) (y_extract (ev_tv rfl rfl) rfl) ?_
  refine L_val (v := .slice x2 x2l x2c) (y_assign (ev_tv rfl rfl)) ?_
  refine L_val (v := .int .i64 x3) (y_assign (ev_tv rfl rfl)) ?_
  refine l_nil ?_
  refine then_norm ?_
  refine hK2 _ _ ?_
  clear hK2
  refine c_seq ?_
  intro K3 hK3
  refine c_region ?_
  refine L_val (v := .string a_path1) (y_move (ev_tv rfl rfl)) ?_
  refine L_call (y_call Tryd.call8 (map_ev1 (ev_tv rfl rfl)) ev_f) (Calls.mono H ?_)
  clear H
  rintro _ w8 ⟨x6, x6l, x6c, x7, rfl, H⟩
  refine ⟨_, rfl, ?_⟩
  refine L_val (v := .tuple #[.slice x6 x6l x6c, .int .i64 x7]) (y_move (ev_tv rfl rfl)) ?_
  refine L_val (v := .slice x6 x6l x6c) (y_extract (ev_tv rfl rfl) rfl) ?_
  refine L_val (v := .int .i64 x7) (y_extract (ev_tv rfl rfl) rfl) ?_
  refine L_val (v := .slice x6 x6l x6c) (y_assign (ev_tv rfl rfl)) ?_
  refine L_val (v := .int .i64 x7) (y_assign (ev_tv rfl rfl)) ?_
  refine l_nil ?_
  refine then_norm ?_
  refine hK3 _ _ ?_
  clear hK3
  refine c_seq ?_
  intro K4 hK4
  refine c_region ?_
  refine L_call (y_call Tryd.call9 map_ev0 ev_f) (Calls.mono H ?_)
  clear H
  rintro _ w11 ⟨x10, rfl, H⟩
  refine ⟨_, rfl, ?_⟩
  refine L_val (v := .bool x10) (y_move (ev_tv rfl rfl)) ?_
  rcases Bool.eq_false_or_eq_true x10 with hb5 | hb5
  · replace H := H.1 hb5
    have hq6 : Value.bool (x10) = Value.bool true := congrArg Value.bool hb5
    refine G_val (dj := 18) rfl rfl hq6 (v := .slice x2 x2l x2c) (y_move (ev_tv rfl rfl)) ?_
    refine G_val (dj := 18) rfl rfl hq6 (v := .slice x6 x6l x6c) (y_move (ev_tv rfl rfl)) ?_
    refine G_call (dj := 18) rfl rfl hq6 (y_call Tryd.call10 (map_ev2 (ev_tv rfl rfl) (ev_tv rfl rfl)) ev_f) (Calls.mono H ?_)
    clear H
    rintro _ w14 ⟨x13, rfl, H⟩
    refine ⟨_, rfl, ?_⟩
    refine L_val (v := .bool x13) (y_pick_t (ev_tv rfl hq6) (ev_tv rfl rfl)) ?_
    refine L_val (v := .bool x13) (y_move (ev_tv rfl rfl)) ?_
    rcases Bool.eq_false_or_eq_true x13 with hb7 | hb7
    · replace H := H.1 hb7
      have hq8 : Value.bool (x13) = Value.bool true := congrArg Value.bool hb7
      refine G_val (dj := 23) rfl rfl hq8 (v := .int .i64 x3) (y_move (ev_tv rfl rfl)) ?_
      refine G_val (dj := 23) rfl rfl hq8 (v := .int .i64 x7) (y_move (ev_tv rfl rfl)) ?_
      refine G_val (dj := 23) rfl rfl hq8 (v := .bool (decide ((x3 : Int) = x7))) (y_ieq (ev_tv rfl rfl) (ev_tv rfl rfl)) ?_
      refine L_val (v := .bool (decide ((x3 : Int) = x7))) (y_pick_t (ev_tv rfl hq8) (ev_tv rfl rfl)) ?_
      refine L_val (v := .bool (decide ((x3 : Int) = x7))) (y_assign (ev_tv rfl rfl)) ?_
      refine l_nil ?_
      refine then_norm ?_
      refine hK4 _ _ ?_
      clear hK4
      refine c_ret ?_
      exact body_1 rfl (ev_tv rfl rfl) H
    · replace H := H.2 hb7
      have hq8 : Value.bool (x13) = Value.bool false := congrArg Value.bool hb7
      refine G_not (b' := false) (dj := 23) rfl rfl hq8 rfl ?_
      refine G_not (b' := false) (dj := 23) rfl rfl hq8 rfl ?_
      refine G_not (b' := false) (dj := 23) rfl rfl hq8 rfl ?_
      refine L_val (v := .bool false) (y_pick_f (ev_tv rfl hq8) ev_c) ?_
      refine L_val (v := .bool false) (y_assign (ev_tv rfl rfl)) ?_
      refine l_nil ?_
      refine then_norm ?_
      refine hK4 _ _ ?_
      clear hK4
      refine c_ret ?_
      exact body_1 rfl (ev_tv rfl rfl) H
  · replace H := H.2 hb5
    have hq6 : Value.bool (x10) = Value.bool false := congrArg Value.bool hb5
    refine G_not (b' := false) (dj := 18) rfl rfl hq6 rfl ?_
    refine G_not (b' := false) (dj := 18) rfl rfl hq6 rfl ?_
    refine G_not (b' := false) (dj := 18) rfl rfl hq6 rfl ?_
    refine L_val (v := .bool false) (y_pick_f (ev_tv rfl hq6) ev_c) ?_
    refine L_val (v := .bool false) (y_move (ev_tv rfl rfl)) ?_
    refine G_not (b' := false) (dj := 23) rfl rfl rfl rfl ?_
    refine G_not (b' := false) (dj := 23) rfl rfl rfl rfl ?_
    refine G_not (b' := false) (dj := 23) rfl rfl rfl rfl ?_
    refine L_val (v := .bool false) (y_pick_f (ev_tv rfl rfl) ev_c) ?_
    refine L_val (v := .bool false) (y_assign (ev_tv rfl rfl)) ?_
    refine l_nil ?_
    refine then_norm ?_
    refine hK4 _ _ ?_
    clear hK4
    refine c_ret ?_
    exact body_1 rfl (ev_tv rfl rfl) H

/-- parapet/parapetlaw19.NamecKeeps -/
def Vc4 (a_room1 : Int) (a_l2 : Option Addr) (a_l2l : Nat) (a_l2c : Nat) (w : World) (R : Ending → World → Prop) : Prop :=
  (Calls Tryd.prog 11 #[.int .i64 1] w fun e w5 => ∃ x3 : Option Addr, ∃ x4 : Int, e = .returned (.tuple #[.pointer x3, .int .i64 x4]) ∧ (Calls Tryd.prog 12 #[.pointer x3, .int .i64 a_room1] w5 fun e w9 => ∃ x7 : Option Addr, ∃ x8 : Int, e = .returned (.tuple #[.pointer x7, .int .i64 x8]) ∧ (Calls Tryd.prog 9 #[] w9 fun e w12 => ∃ x11 : Bool, e = .returned (.bool x11) ∧ (((x11 = true) → (((x3 = none) → R (.returned (.bool false)) w12) ∧ ((x3 ≠ none) → (∃ J12 : Bool → World → Prop, (∀ (v14 : Bool) (w15 : World), J12 v14 w15 → (((v14 = true) → (((x7 = none) → R (.returned (.bool (decide ((x8 : Int) = 1)))) w15) ∧ ((x7 ≠ none) → R (.returned (.bool false)) w15))) ∧ ((v14 = false) → (((¬ ((x8 : Int) = 0)) → R (.returned (.bool false)) w15) ∧ (((x8 : Int) = 0) → (((x7 = none) → R (.returned (.bool false)) w15) ∧ ((x7 ≠ none) → (∀ (b16 : Nat) (w17 : World), b16 = World.heapSize w15 → w17 = World.alloc w15 (.cells #[.int .i64 a_room1, .slice none 0 0, .int .i64 0, .slice none 0 0] 40) → (∃ J35 : World → Prop, (∀  (w18 : World), J35  w18 → (Calls Tryd.prog 22 #[.pointer x7] w18 fun e w20 => ∃ x19 : Option Addr, ∃ x19l : Nat, ∃ x19c : Nat, e = .returned (.slice x19 x19l x19c) ∧ (∃ x22 : Option Addr, ∃ x22l : Nat, ∃ x22c : Nat, World.cell? w20 ⟨b16, 0 + 1, none⟩ = some (.slice x22 x22l x22c) ∧ (((¬ ((((x19l : Nat) : Int) : Int) = ((x22l : Nat) : Int))) → R (.returned (.bool false)) w20) ∧ (((((x19l : Nat) : Int) : Int) = ((x22l : Nat) : Int)) → (∃ I50 : Nat → Int → World → Prop, (∃ m, I50 m 0 w20) ∧ ∀ (m24 : Nat) (v23 : Int) (w25 : World), I50 m24 v23 w25 → ((((v23 : Int) < ((x19l : Nat) : Int)) → (∃ (b26 o27 : Nat), x19 = some ⟨b26, o27, none⟩ ∧ ((0 : Int) ≤ v23 ∧ v23 < ((x19l : Nat) : Int) ∧ (∃ x28 : Int, ∃ x29 : ByteArray, CellsAt (w25.drew) ⟨b26, o27 + (v23 : Int).toNat * 2, none⟩ [.int .i64 x28, .string x29] ∧ (∃ x30 : Option Addr, ∃ x30l : Nat, ∃ x30c : Nat, World.cell? (w25.drew) ⟨b16, 0 + 1, none⟩ = some (.slice x30 x30l x30c) ∧ (∃ (b31 o32 : Nat), x30 = some ⟨b31, o32, none⟩ ∧ ((0 : Int) ≤ v23 ∧ v23 < ((x30l : Nat) : Int) ∧ (∃ x33 : Int, ∃ x34 : ByteArray, CellsAt (w25.drew) ⟨b31, o32 + (v23 : Int).toNat * 4, none⟩ [.int .i64 x33, .string x34] ∧ (∃ q35 : Bool, (∀ w' : World, (eqGuard .neq 42 (.tmp 181) (.tmp 189) (.agg #[.int .i64 x28, .string x29]) (.agg #[.int .i64 x33, .string x34])).run Tryd.prog w' = .ok () w') ∧ (∀ w' : World, (binOp .neq 42 (.agg #[.int .i64 x28, .string x29]) (.agg #[.int .i64 x33, .string x34])).run Tryd.prog w' = .ok (.bool q35) w') ∧ (((q35 = true) → R (.returned (.bool false)) (w25.drew)) ∧ ((q35 = false) → (∀ r36 : Int, r36 = IntKind.wrap .i64 (v23 + 1) → (∃ m37, m37 < m24 ∧ I50 m37 r36 (w25.drew)))))))))))))) ∧ ((¬ ((v23 : Int) < ((x19l : Nat) : Int))) → R (.returned (.bool true)) w25)))))))) ∧ (∃ I79 : Nat → Int → World → Prop, (∃ m, I79 m 0 w17) ∧ ∀ (m39 : Nat) (v38 : Int) (w40 : World), I79 m39 v38 w40 → ((((v38 : Int) < ((a_l2l : Nat) : Int)) → (∃ (b41 o42 : Nat), a_l2 = some ⟨b41, o42, none⟩ ∧ ((0 : Int) ≤ v38 ∧ v38 < ((a_l2l : Nat) : Int) ∧ (∃ x43 : Int, ∃ x44 : Int, ∃ x45 : ByteArray, ∃ x46 : Int, CellsAt w40 ⟨b41, o42 + (v38 : Int).toNat * 4, none⟩ [.int .i64 x43, .int .i64 x44, .string x45, .int .i64 x46] ∧ (∀ (b47 : Nat) (w48 : World), b47 = World.heapSize w40 → w48 = World.alloc w40 (.cells #[.int .i64 0, .int .i64 0, .string (⟨#[]⟩ : ByteArray), .int .i64 0] 44) → ((∀ j, j < 4 → (World.cell? w48 (Addr.add ⟨b47, 0, none⟩ j)).isSome = true ∧ World.frozen? w48 (Addr.add ⟨b47, 0, none⟩ j) = false) ∧ ∀ w49 : World, w49 = putCells w48 ⟨b47, 0, none⟩ [.int .i64 x43, .int .i64 x44, .string x45, .int .i64 x46] 0 → (∃ x50 : Int, World.cell? w49 ⟨b47, 0, none⟩ = some (.int .i64 x50) ∧ ((((x50 : Int) = 1) → (∃ x51 : Int, ∃ x52 : ByteArray, CellsAt w49 ⟨b47, 0 + 1, none⟩ [.int .i64 x51, .string x52] ∧ (Calls Tryd.prog 13 #[.pointer x7, .agg #[.int .i64 x51, .string x52]] w49 fun e w55 => ∃ x53 : Int, ∃ x54 : Bool, e = .returned (.tuple #[.int .i64 x53, .bool x54]) ∧ (∃ x57 : Int, ∃ x58 : ByteArray, CellsAt w55 ⟨b47, 0 + 1, none⟩ [.int .i64 x57, .string x58] ∧ (Calls Tryd.prog 14 #[.pointer (some ⟨b16, 0, none⟩), .agg #[.int .i64 x57, .string x58]] w55 fun e w61 => ∃ x59 : Int, ∃ x60 : Bool, e = .returned (.tuple #[.int .i64 x59, .bool x60]) ∧ (((¬ ((x53 : Int) = x59)) → R (.returned (.bool false)) w61) ∧ (((x53 : Int) = x59) → ((((!(x54 == x60)) = true) → R (.returned (.bool false)) w61) ∧ (((!(x54 == x60)) = false) → (∀ r63 : Int, r63 = IntKind.wrap .i64 (v38 + 1) → (∃ m64, m64 < m39 ∧ I79 m64 r63 w61))))))))))) ∧ ((¬ ((x50 : Int) = 1)) → ((((x50 : Int) = 2) → (∃ x65 : Int, ∃ x66 : ByteArray, CellsAt (w49.drew) ⟨b47, 0 + 1, none⟩ [.int .i64 x65, .string x66] ∧ (∃ x67 : Int, World.cell? (w49.drew) ⟨b47, 0 + 3, none⟩ = some (.int .i64 x67) ∧ (∃ x68 : Int, ∃ x69 : ByteArray, CellsAt (w49.drew) ⟨b47, 0 + 1, none⟩ [.int .i64 x68, .string x69] ∧ (∃ x70 : Int, World.cell? (w49.drew) ⟨b47, 0 + 3, none⟩ = some (.int .i64 x70) ∧ (Calls Tryd.prog 15 #[.pointer x7, .agg #[.int .i64 x65, .string x66], .int .i64 x67] (w49.drew) fun e w72 => ∃ x71 : Int, e = .returned (.int .i64 x71) ∧ (World.cell? w72 ⟨b47, 0 + 3, none⟩ = some (.int .i64 x70) ∧ CellsAt w72 ⟨b47, 0 + 1, none⟩ [.int .i64 x68, .string x69] ∧ (Calls Tryd.prog 16 #[.pointer (some ⟨b16, 0, none⟩), .agg #[.int .i64 x68, .string x69], .int .i64 x70] w72 fun e w74 => ∃ x73 : Int, e = .returned (.int .i64 x73) ∧ (((¬ ((x71 : Int) = x73)) → R (.returned (.bool false)) w74) ∧ (((x71 : Int) = x73) → (∀ r75 : Int, r75 = IntKind.wrap .i64 (v38 + 1) → (∃ m76, m76 < m39 ∧ I79 m76 r75 w74)))))))))))) ∧ ((¬ ((x50 : Int) = 2)) → ((((x50 : Int) = 3) → (∃ x77 : Int, ∃ x78 : ByteArray, CellsAt (w49.drew) ⟨b47, 0 + 1, none⟩ [.int .i64 x77, .string x78] ∧ (∃ x79 : Int, ∃ x80 : ByteArray, CellsAt (w49.drew) ⟨b47, 0 + 1, none⟩ [.int .i64 x79, .string x80] ∧ (Calls Tryd.prog 17 #[.pointer x7, .agg #[.int .i64 x77, .string x78]] (w49.drew) fun e w82 => ∃ x81 : Bool, e = .returned (.bool x81) ∧ (CellsAt w82 ⟨b47, 0 + 1, none⟩ [.int .i64 x79, .string x80] ∧ (Calls Tryd.prog 18 #[.pointer (some ⟨b16, 0, none⟩), .agg #[.int .i64 x79, .string x80]] w82 fun e w84 => ∃ x83 : Bool, e = .returned (.bool x83) ∧ ((((!(x81 == x83)) = true) → R (.returned (.bool false)) w84) ∧ (((!(x81 == x83)) = false) → (∀ r85 : Int, r85 = IntKind.wrap .i64 (v38 + 1) → (∃ m86, m86 < m39 ∧ I79 m86 r85 w84)))))))))) ∧ ((¬ ((x50 : Int) = 3)) → ((((x50 : Int) = 4) → (∃ x87 : Int, World.cell? (w49.drew) ⟨b47, 0 + 1, none⟩ = some (.int .i64 x87) ∧ (∃ x88 : Int, World.cell? (w49.drew) ⟨b47, 0 + 1, none⟩ = some (.int .i64 x88) ∧ (Calls Tryd.prog 19 #[.pointer x7, .int .i64 x87] (w49.drew) fun e w90 => ∃ x89 : Int, e = .returned (.int .i64 x89) ∧ (World.cell? w90 ⟨b47, 0 + 1, none⟩ = some (.int .i64 x88) ∧ (Calls Tryd.prog 20 #[.pointer (some ⟨b16, 0, none⟩), .int .i64 x88] w90 fun e w92 => ∃ x91 : Int, e = .returned (.int .i64 x91) ∧ (((¬ ((x89 : Int) = x91)) → R (.returned (.bool false)) w92) ∧ (((x89 : Int) = x91) → (∀ r93 : Int, r93 = IntKind.wrap .i64 (v38 + 1) → (∃ m94, m94 < m39 ∧ I79 m94 r93 w92)))))))))) ∧ ((¬ ((x50 : Int) = 4)) → ((((x50 : Int) = 5) → (Calls Tryd.prog 21 #[.pointer x3] w49 fun e w96 => ∃ x95 : Option Addr, ∃ x95l : Nat, ∃ x95c : Nat, e = .returned (.slice x95 x95l x95c) ∧ (∃ x98 : Option Addr, ∃ x98l : Nat, ∃ x98c : Nat, World.cell? w96 ⟨b16, 0 + 3, none⟩ = some (.slice x98 x98l x98c) ∧ (((¬ ((((x95l : Nat) : Int) : Int) = ((x98l : Nat) : Int))) → R (.returned (.bool false)) w96) ∧ (((((x95l : Nat) : Int) : Int) = ((x98l : Nat) : Int)) → (∃ I168 : Nat → Int → World → Prop, (∃ m, I168 m 0 w96) ∧ ∀ (m100 : Nat) (v99 : Int) (w101 : World), I168 m100 v99 w101 → ((((v99 : Int) < ((x95l : Nat) : Int)) → (∃ (b102 o103 : Nat), x95 = some ⟨b102, o103, none⟩ ∧ ((0 : Int) ≤ v99 ∧ v99 < ((x95l : Nat) : Int) ∧ (∃ x104 : Int, World.cell? (w101.drew) ⟨b102, o103 + (v99 : Int).toNat, none⟩ = some (.int .i64 x104) ∧ (∃ x105 : Option Addr, ∃ x105l : Nat, ∃ x105c : Nat, World.cell? (w101.drew) ⟨b16, 0 + 3, none⟩ = some (.slice x105 x105l x105c) ∧ (∃ (b106 o107 : Nat), x105 = some ⟨b106, o107, none⟩ ∧ ((0 : Int) ≤ v99 ∧ v99 < ((x105l : Nat) : Int) ∧ (∃ x108 : Int, World.cell? (w101.drew) ⟨b106, o107 + (v99 : Int).toNat, none⟩ = some (.int .i64 x108) ∧ (((¬ ((x104 : Int) = x108)) → R (.returned (.bool false)) (w101.drew)) ∧ (((x104 : Int) = x108) → (∀ r109 : Int, r109 = IntKind.wrap .i64 (v99 + 1) → (∃ m110, m110 < m100 ∧ I168 m110 r109 (w101.drew))))))))))))) ∧ ((¬ ((v99 : Int) < ((x95l : Nat) : Int))) → (∀ r111 : Int, r111 = IntKind.wrap .i64 (v38 + 1) → (∃ m112, m112 < m39 ∧ I79 m112 r111 w101)))))))))) ∧ ((¬ ((x50 : Int) = 5)) → (∀ r113 : Int, r113 = IntKind.wrap .i64 (v38 + 1) → (∃ m114, m114 < m39 ∧ I79 m114 r113 w49))))))))))))))))))) ∧ ((¬ ((v38 : Int) < ((a_l2l : Nat) : Int))) → J35  w40)))))))))))) ∧ ((((a_room1 : Int) < 1) → J12 true w12) ∧ ((¬ ((a_room1 : Int) < 1)) → J12 (decide ((4096 : Int) < a_room1)) w12)))))) ∧ ((x11 = false) → R (.returned (.bool false)) w12)))))

theorem vc4 {a_room1 : Int} {a_l2 : Option Addr} {a_l2l : Nat} {a_l2c : Nat} {w : World} {R : Ending → World → Prop} (H : Vc4 a_room1 a_l2 a_l2l a_l2c w R) : Calls Tryd.prog 4 #[.int .i64 a_room1, .slice a_l2 a_l2l a_l2c] w R := by
  unfold Vc4 at H
  refine calls_start [.int .i64 a_room1, .slice a_l2 a_l2l a_l2c] Tryd.func4 rfl Tryd.ntmps4 rfl ?_
  refine c_seq ?_
  intro K1 hK1
  refine c_region ?_
  refine L_val (v := .bool false) (y_assign ev_c) ?_
  refine l_nil ?_
  refine then_norm ?_
  refine hK1 _ _ ?_
  clear hK1
  refine c_seq ?_
  intro K2 hK2
  refine c_region ?_
  refine L_call (y_call Tryd.call11 (map_ev1 ev_c) ev_f) (Calls.mono H ?_)
  clear H
  rintro _ w5 ⟨x3, x4, rfl, H⟩
  refine ⟨_, rfl, ?_⟩
  refine L_val (v := .tuple #[.pointer x3, .int .i64 x4]) (y_move (ev_tv rfl rfl)) ?_
  refine L_val (v := .pointer x3) (y_extract (ev_tv rfl rfl) rfl) ?_
  refine L_val (v := .int .i64 x4) (y_extract (ev_tv rfl rfl) rfl) ?_
  refine L_val (v := .pointer x3) (y_assign (ev_tv rfl rfl)) ?_
  refine L_val (v := .int .i64 x4) (y_assign (ev_tv rfl rfl)) ?_
  refine l_nil ?_
  refine then_norm ?_
  refine hK2 _ _ ?_
  clear hK2
  refine c_seq ?_
  intro K3 hK3
  refine c_region ?_
  refine L_val (v := .pointer x3) (y_move (ev_tv rfl rfl)) ?_
  refine L_val (v := .int .i64 a_room1) (y_move (ev_tv rfl rfl)) ?_
  refine L_call (y_call Tryd.call12 (map_ev2 (ev_tv rfl rfl) (ev_tv rfl rfl)) ev_f) (Calls.mono H ?_)
  clear H
  rintro _ w9 ⟨x7, x8, rfl, H⟩
  refine ⟨_, rfl, ?_⟩
  refine L_val (v := .tuple #[.pointer x7, .int .i64 x8]) (y_move (ev_tv rfl rfl)) ?_
  refine L_val (v := .pointer x7) (y_extract (ev_tv rfl rfl) rfl) ?_
  refine L_val (v := .int .i64 x8) (y_extract (ev_tv rfl rfl) rfl) ?_
  refine L_val (v := .pointer x7) (y_assign (ev_tv rfl rfl)) ?_
  refine L_val (v := .int .i64 x8) (y_assign (ev_tv rfl rfl)) ?_
  refine l_nil ?_
  refine then_norm ?_
  refine hK3 _ _ ?_
  clear hK3
  refine c_seq ?_
  intro K4 hK4
  refine c_seq ?_
  intro K5 hK5
  refine c_region ?_
  refine L_call (y_call Tryd.call9 map_ev0 ev_f) (Calls.mono H ?_)
  clear H
  rintro _ w12 ⟨x11, rfl, H⟩
  refine ⟨_, rfl, ?_⟩
  rcases Bool.eq_false_or_eq_true x11 with hb6 | hb6
  · replace H := H.1 hb6
    have hq7 : Value.bool (x11) = Value.bool true := congrArg Value.bool hb6
    refine L_val (v := .bool false) (y_not_t (ev_tv rfl hq7)) ?_
    refine L_val (v := .bool false) (y_move (ev_tv rfl rfl)) ?_
    refine G_val (dj := 32) rfl rfl rfl (v := .pointer x3) (y_move (ev_tv rfl rfl)) ?_
    refine G_val (dj := 32) rfl rfl rfl (v := .bool (x3.isNone)) (y_peq Tryd.underlying30 (ev_tv rfl rfl) ev_c) ?_
    refine L_val (v := .bool (x3.isNone)) (y_pick_f (ev_tv rfl rfl) (ev_tv rfl rfl)) ?_
    refine l_nil ?_
    refine then_norm ?_
    refine hK5 _ _ ?_
    clear hK5
    rcases (Classical.em (x3 = none)) with hb8 | hb8
    · replace H := H.1 hb8
      have hq9 : Value.bool (x3.isNone) = Value.bool true := congrArg Value.bool (isn_t hb8)
      refine cond_t (ev_tv rfl hq9) ?_
      refine c_seq ?_
      intro K10 hK10
      refine c_region ?_
      refine L_val (v := .bool false) (y_assign ev_c) ?_
      refine l_nil ?_
      refine then_norm ?_
      refine hK10 _ _ ?_
      clear hK10
      refine c_ret ?_
      refine then_ret ?_
      exact body_1 rfl (ev_tv rfl rfl) H
    · replace H := H.2 hb8
      have hq9 : Value.bool (x3.isNone) = Value.bool false := congrArg Value.bool (isn_f hb8)
      refine cond_f (ev_tv rfl hq9) ?_
      refine c_skip ?_
      refine then_norm ?_
      refine hK4 _ _ ?_
      clear hK4
      refine c_seq ?_
      intro K11 hK11
      obtain ⟨J12, hJ13, H⟩ := H
      refine c_seqJ [(36, 41)] (fun ff ww => ∃ (v14 : Bool), ff 41 = (.bool v14 : Value) ∧ J12 v14 ww) ?_ ?_
      · clear hJ13
        intro K17 hK17
        refine c_region ?_
        refine L_val (v := .int .i64 a_room1) (y_move (ev_tv rfl rfl)) ?_
        refine L_val (v := .bool (decide ((a_room1 : Int) < 1))) (y_lss (ev_tv rfl rfl) ev_c) ?_
        refine L_val (v := .bool (decide ((a_room1 : Int) < 1))) (y_move (ev_tv rfl rfl)) ?_
        rcases (Decidable.em ((a_room1 : Int) < 1)) with hb197 | hb197
        · replace H := H.1 hb197
          have hq198 : Value.bool (decide ((a_room1 : Int) < 1)) = Value.bool true := congrArg Value.bool (decide_eq_true hb197)
          refine G_not (b' := true) (dj := 38) rfl rfl hq198 rfl ?_
          refine G_not (b' := true) (dj := 38) rfl rfl hq198 rfl ?_
          refine L_val (v := .bool true) (y_pick_t (ev_tv rfl hq198) ev_c) ?_
          refine l_nil ?_
          refine then_norm ?_
          exact hK17 _ _ (by repeat (first | exact agree_refl | refine agree_upd rfl ?_)) ⟨_, rfl, H⟩
        · replace H := H.2 hb197
          have hq198 : Value.bool (decide ((a_room1 : Int) < 1)) = Value.bool false := congrArg Value.bool (decide_eq_false hb197)
          refine G_val (dj := 38) rfl rfl hq198 (v := .int .i64 a_room1) (y_move (ev_tv rfl rfl)) ?_
          refine G_val (dj := 38) rfl rfl hq198 (v := .bool (decide ((4096 : Int) < a_room1))) (y_gtr (ev_tv rfl rfl) ev_c) ?_
          refine L_val (v := .bool (decide ((4096 : Int) < a_room1))) (y_pick_f (ev_tv rfl hq198) (ev_tv rfl rfl)) ?_
          refine l_nil ?_
          refine then_norm ?_
          exact hK17 _ _ (by repeat (first | exact agree_refl | refine agree_upd rfl ?_)) ⟨_, rfl, H⟩
      · clear H
        rintro f14 w15 hag15 ⟨v14, hs18, HJ16⟩
        have H := hJ13 v14 w15 HJ16
        clear hJ13
        rcases Bool.eq_false_or_eq_true v14 with hb19 | hb19
        · replace H := H.1 hb19
          have hq20 : Value.bool (v14) = Value.bool true := congrArg Value.bool hb19
          refine cond_t (ev_tv rfl (hs18.trans hq20)) ?_
          refine c_seq ?_
          intro K21 hK21
          refine c_region ?_
          refine L_val (v := .pointer x7) (y_move (ev_tv rfl ((hag15 7 rfl).trans rfl))) ?_
          refine L_val (v := .bool (x7.isNone)) (y_peq Tryd.underlying33 (ev_tv rfl rfl) ev_c) ?_
          refine L_val (v := .bool (x7.isNone)) (y_move (ev_tv rfl rfl)) ?_
          rcases (Classical.em (x7 = none)) with hb22 | hb22
          · replace H := H.1 hb22
            have hq23 : Value.bool (x7.isNone) = Value.bool true := congrArg Value.bool (isn_t hb22)
            refine G_val (dj := 44) rfl rfl hq23 (v := .int .i64 x8) (y_move (ev_tv rfl ((hag15 8 rfl).trans rfl))) ?_
            refine G_val (dj := 44) rfl rfl hq23 (v := .bool (decide ((x8 : Int) = 1))) (y_ieq (ev_tv rfl rfl) ev_c) ?_
            refine L_val (v := .bool (decide ((x8 : Int) = 1))) (y_pick_t (ev_tv rfl hq23) (ev_tv rfl rfl)) ?_
            refine L_val (v := .bool (decide ((x8 : Int) = 1))) (y_assign (ev_tv rfl rfl)) ?_
            refine l_nil ?_
            refine then_norm ?_
            refine hK21 _ _ ?_
            clear hK21
            refine c_ret ?_
            refine then_ret ?_
            exact body_1 rfl (ev_tv rfl rfl) H
          · replace H := H.2 hb22
            have hq23 : Value.bool (x7.isNone) = Value.bool false := congrArg Value.bool (isn_f hb22)
            refine G_not (b' := false) (dj := 44) rfl rfl hq23 rfl ?_
            refine G_not (b' := false) (dj := 44) rfl rfl hq23 rfl ?_
            refine L_val (v := .bool false) (y_pick_f (ev_tv rfl hq23) ev_c) ?_
            refine L_val (v := .bool false) (y_assign (ev_tv rfl rfl)) ?_
            refine l_nil ?_
            refine then_norm ?_
            refine hK21 _ _ ?_
            clear hK21
            refine c_ret ?_
            refine then_ret ?_
            exact body_1 rfl (ev_tv rfl rfl) H
        · replace H := H.2 hb19
          have hq20 : Value.bool (v14) = Value.bool false := congrArg Value.bool hb19
          refine cond_f (ev_tv rfl (hs18.trans hq20)) ?_
          refine c_skip ?_
          refine then_norm ?_
          refine hK11 _ _ ?_
          clear hK11
          refine c_seq ?_
          intro K24 hK24
          refine c_seq ?_
          intro K25 hK25
          refine c_region ?_
          refine L_val (v := .int .i64 x8) (y_move (ev_tv rfl ((hag15 8 rfl).trans rfl))) ?_
          refine L_val (v := .bool (!decide ((x8 : Int) = 0))) (y_ine (ev_tv rfl rfl) ev_c) ?_
          refine L_val (v := .bool (!decide ((x8 : Int) = 0))) (y_move (ev_tv rfl rfl)) ?_
          rcases (Decidable.em ((x8 : Int) = 0)).symm with hb26 | hb26
          · replace H := H.1 hb26
            have hq27 : Value.bool (!decide ((x8 : Int) = 0)) = Value.bool true := congrArg Value.bool (ndec_t hb26)
            refine G_not (b' := true) (dj := 50) rfl rfl hq27 rfl ?_
            refine G_not (b' := true) (dj := 50) rfl rfl hq27 rfl ?_
            refine L_val (v := .bool true) (y_pick_t (ev_tv rfl hq27) ev_c) ?_
            refine l_nil ?_
            refine then_norm ?_
            refine hK25 _ _ ?_
            clear hK25
            refine cond_t (ev_tv rfl rfl) ?_
            refine c_seq ?_
            intro K28 hK28
            refine c_region ?_
            refine L_val (v := .bool false) (y_assign ev_c) ?_
            refine l_nil ?_
            refine then_norm ?_
            refine hK28 _ _ ?_
            clear hK28
            refine c_ret ?_
            refine then_ret ?_
            exact body_1 rfl (ev_tv rfl rfl) H
          · replace H := H.2 hb26
            have hq27 : Value.bool (!decide ((x8 : Int) = 0)) = Value.bool false := congrArg Value.bool (ndec_f hb26)
            refine G_val (dj := 50) rfl rfl hq27 (v := .pointer x7) (y_move (ev_tv rfl ((hag15 7 rfl).trans rfl))) ?_
            refine G_val (dj := 50) rfl rfl hq27 (v := .bool (x7.isNone)) (y_peq Tryd.underlying33 (ev_tv rfl rfl) ev_c) ?_
            refine L_val (v := .bool (x7.isNone)) (y_pick_f (ev_tv rfl hq27) (ev_tv rfl rfl)) ?_
            refine l_nil ?_
            refine then_norm ?_
            refine hK25 _ _ ?_
            clear hK25
            rcases (Classical.em (x7 = none)) with hb29 | hb29
            · replace H := H.1 hb29
              have hq30 : Value.bool (x7.isNone) = Value.bool true := congrArg Value.bool (isn_t hb29)
              refine cond_t (ev_tv rfl hq30) ?_
              refine c_seq ?_
              intro K31 hK31
              refine c_region ?_
              refine L_val (v := .bool false) (y_assign ev_c) ?_
              refine l_nil ?_
              refine then_norm ?_
              refine hK31 _ _ ?_
              clear hK31
              refine c_ret ?_
              refine then_ret ?_
              exact body_1 rfl (ev_tv rfl rfl) H
            · replace H := H.2 hb29
              have hq30 : Value.bool (x7.isNone) = Value.bool false := congrArg Value.bool (isn_f hb29)
              refine cond_f (ev_tv rfl hq30) ?_
              refine c_skip ?_
              refine then_norm ?_
              refine hK24 _ _ ?_
              clear hK24
              refine c_seq ?_
              intro K32 hK32
              refine c_region ?_
              refine L_val (v := .int .i64 a_room1) (y_move (ev_tv rfl ((hag15 0 rfl).trans rfl))) ?_
              refine L_val (v := .agg #[.int .i64 a_room1, .slice none 0 0, .int .i64 0, .slice none 0 0]) (y_build (parts_ev1 (ev_tv rfl rfl)) (by kernel_rfl)) ?_
              obtain ⟨b16, hb33⟩ : ∃ b16 : Nat, b16 = World.heapSize w15 := ⟨_, rfl⟩
              obtain ⟨w17, hw34⟩ : ∃ w17 : World, w17 = World.alloc w15 (.cells #[.int .i64 a_room1, .slice none 0 0, .int .i64 0, .slice none 0 0] 40) := ⟨_, rfl⟩
              replace H := H b16 w17 hb33 hw34
              refine L_val (v := .pointer (some ⟨b16, 0, none⟩)) (y_box (ev_tv rfl rfl) rfl hb33 hw34) ?_
              refine L_val (v := .pointer (some ⟨b16, 0, none⟩)) (y_assign (ev_tv rfl rfl)) ?_
              refine l_nil ?_
              refine then_norm ?_
              refine hK32 _ _ ?_
              clear hK32
              obtain ⟨J35, hJ36, H⟩ := H
              refine c_seqJ [(4, 4), (10, 17), (57, 161)] (fun ff ww => J35  ww) ?_ ?_
              · clear hJ36
                intro K40 hK40
                refine c_seq ?_
                intro K78 hK78
                refine c_region ?_
                refine L_val (v := .int .i64 0) (y_assign ev_c) ?_
                refine l_nil ?_
                refine then_norm ?_
                refine hK78 _ _ ?_
                clear hK78
                refine c_block ?_
                obtain ⟨I79, ⟨m83, HI84⟩, H⟩ := H
                refine loop_fr ([(4, 4), (10, 17), (57, 161)]) (fun m ff ww => ∃ (v38 : Int), ff 10 = (.int .i64 v38 : Value) ∧ I79 m v38 ww) m83 ⟨0, rfl, HI84⟩ ?_
                rintro m39 f80 w40 hag81 ⟨v38, hs85, HI82⟩
                replace H := H m39 v38 w40 HI82
                refine c_seq ?_
                intro K86 hK86
                refine c_seq ?_
                intro K87 hK87
                refine c_region ?_
                refine L_val (v := .int .i64 v38) (y_move (ev_tv rfl hs85)) ?_
                refine L_val (v := .slice a_l2 a_l2l a_l2c) (y_move (ev_tv rfl ((hag81 1 rfl).trans ((hag15 1 rfl).trans rfl)))) ?_
                refine L_val (v := .int .i64 ((a_l2l : Nat) : Int)) (y_len Tryd.underlying29 rfl (map_ev1 (ev_tv rfl rfl))) ?_
                refine L_val (v := .bool (decide ((v38 : Int) < ((a_l2l : Nat) : Int)))) (y_lss (ev_tv rfl rfl) (ev_tv rfl rfl)) ?_
                refine l_nil ?_
                refine then_norm ?_
                refine hK87 _ _ ?_
                clear hK87
                rcases (Decidable.em ((v38 : Int) < ((a_l2l : Nat) : Int))) with hb88 | hb88
                · replace H := H.1 hb88
                  have hq89 : Value.bool (decide ((v38 : Int) < ((a_l2l : Nat) : Int))) = Value.bool true := congrArg Value.bool (decide_eq_true hb88)
                  refine cond_t (ev_tv rfl hq89) ?_
                  refine c_skip ?_
                  refine then_norm ?_
                  refine hK86 _ _ ?_
                  clear hK86
                  refine c_seq ?_
                  intro K90 hK90
                  refine c_block ?_
                  refine c_seq ?_
                  intro K91 hK91
                  refine c_region ?_
                  refine L_val (v := .slice a_l2 a_l2l a_l2c) (y_move (ev_tv rfl ((hag81 1 rfl).trans ((hag15 1 rfl).trans rfl)))) ?_
                  refine L_val (v := .int .i64 v38) (y_move (ev_tv rfl hs85)) ?_
                  obtain ⟨b41, o42, rfl, H⟩ := H
                  obtain ⟨hi92, hi93, H⟩ := H
                  refine L_val (v := .pointer (some ⟨b41, o42 + (v38 : Int).toNat * 4, none⟩)) (y_ix Tryd.underlying29 Tryd.type44 rfl (ev_tv rfl rfl) (ev_tv rfl rfl) hi92 hi93) ?_
                  obtain ⟨x43, x44, x45, x46, hc94, H⟩ := H
                  refine L_val (v := .agg #[.int .i64 x43, .int .i64 x44, .string x45, .int .i64 x46]) (y_loadAgg Tryd.underlying44 rfl Tryd.type44 rfl (ev_tv rfl rfl) hc94) ?_
                  obtain ⟨b47, hb95⟩ : ∃ b47 : Nat, b47 = World.heapSize w40 := ⟨_, rfl⟩
                  obtain ⟨w48, hw96⟩ : ∃ w48 : World, w48 = World.alloc w40 (.cells #[.int .i64 0, .int .i64 0, .string (⟨#[]⟩ : ByteArray), .int .i64 0] 44) := ⟨_, rfl⟩
                  replace H := H b47 w48 hb95 hw96
                  refine L_val (v := .pointer (some ⟨b47, 0, none⟩)) (y_alloc Tryd.type44 rfl rfl hb95 hw96) ?_
                  obtain ⟨hc97, H⟩ := H
                  obtain ⟨w49, hw99⟩ : ∃ w49 : World, w49 = putCells w48 ⟨b47, 0, none⟩ [.int .i64 x43, .int .i64 x44, .string x45, .int .i64 x46] 0 := ⟨_, rfl⟩
                  replace H := H w49 hw99
                  refine L_skip (y_storeAgg Tryd.type44 rfl (by intro v hv; simp only [List.mem_cons, List.not_mem_nil, or_false] at hv; rcases hv with rfl | rfl | rfl | rfl <;> rfl) (ev_tv rfl rfl) (ev_tv rfl rfl) hc97 hw99) ?_
                  refine l_nil ?_
                  refine then_norm ?_
                  refine hK91 _ _ ?_
                  clear hK91
                  refine c_seq ?_
                  intro K100 hK100
                  refine c_region ?_
                  refine L_val (v := .pointer (some ⟨b47, 0, none⟩)) (Tryd.fa44_0 (ev_tv rfl rfl)) ?_
                  obtain ⟨x50, hc101, H⟩ := H
                  refine L_val (v := .int .i64 x50) (y_load Tryd.underlying3 rfl (ev_tv rfl rfl) hc101) ?_
                  refine l_nil ?_
                  refine then_norm ?_
                  refine hK100 _ _ ?_
                  clear hK100
                  refine c_block ?_
                  refine c_seq ?_
                  intro K102 hK102
                  refine c_region ?_
                  refine L_val (v := .bool (decide ((x50 : Int) = 1))) (y_ieq (ev_tv rfl rfl) ev_c) ?_
                  refine L_val (v := .bool (decide ((x50 : Int) = 1))) (y_assign (ev_tv rfl rfl)) ?_
                  refine l_nil ?_
                  refine then_norm ?_
                  refine hK102 _ _ ?_
                  clear hK102
                  rcases (Decidable.em ((x50 : Int) = 1)) with hb103 | hb103
                  · replace H := H.1 hb103
                    have hq104 : Value.bool (decide ((x50 : Int) = 1)) = Value.bool true := congrArg Value.bool (decide_eq_true hb103)
                    refine cond_t (ev_tv rfl hq104) ?_
                    refine c_seq ?_
                    intro K105 hK105
                    refine c_region ?_
                    refine L_val (v := .pointer x7) (y_move (ev_tv rfl ((hag81 7 rfl).trans ((hag15 7 rfl).trans rfl)))) ?_
                    refine L_val (v := .pointer (some ⟨b47, 0 + 1, none⟩)) (Tryd.fa44_1 (ev_tv rfl rfl)) ?_
                    obtain ⟨x51, x52, hc106, H⟩ := H
                    refine L_val (v := .agg #[.int .i64 x51, .string x52]) (y_loadAgg Tryd.underlying42 rfl Tryd.type42 rfl (ev_tv rfl rfl) hc106) ?_
                    refine L_call (y_call Tryd.call13 (map_ev2 (ev_tv rfl rfl) (ev_tv rfl rfl)) ev_f) (Calls.mono H ?_)
                    clear H
                    rintro _ w55 ⟨x53, x54, rfl, H⟩
                    refine ⟨_, rfl, ?_⟩
                    refine L_val (v := .tuple #[.int .i64 x53, .bool x54]) (y_move (ev_tv rfl rfl)) ?_
                    refine L_val (v := .int .i64 x53) (y_extract (ev_tv rfl rfl) rfl) ?_
                    refine L_val (v := .bool x54) (y_extract (ev_tv rfl rfl) rfl) ?_
                    refine L_val (v := .int .i64 x53) (y_assign (ev_tv rfl rfl)) ?_
                    refine L_val (v := .bool x54) (y_assign (ev_tv rfl rfl)) ?_
                    refine l_nil ?_
                    refine then_norm ?_
                    refine hK105 _ _ ?_
                    clear hK105
                    refine c_seq ?_
                    intro K107 hK107
                    refine c_region ?_
                    refine L_val (v := .pointer (some ⟨b16, 0, none⟩)) (y_move (ev_tv rfl ((hag81 9 rfl).trans rfl))) ?_
                    refine L_val (v := .pointer (some ⟨b47, 0 + 1, none⟩)) (Tryd.fa44_1 (ev_tv rfl rfl)) ?_
                    obtain ⟨x57, x58, hc108, H⟩ := H
                    refine L_val (v := .agg #[.int .i64 x57, .string x58]) (y_loadAgg Tryd.underlying42 rfl Tryd.type42 rfl (ev_tv rfl rfl) hc108) ?_
                    refine L_call (y_call Tryd.call14 (map_ev2 (ev_tv rfl rfl) (ev_tv rfl rfl)) ev_f) (Calls.mono H ?_)
                    clear H
                    rintro _ w61 ⟨x59, x60, rfl, H⟩
                    refine ⟨_, rfl, ?_⟩
                    refine L_val (v := .tuple #[.int .i64 x59, .bool x60]) (y_move (ev_tv rfl rfl)) ?_
                    refine L_val (v := .int .i64 x59) (y_extract (ev_tv rfl rfl) rfl) ?_
                    refine L_val (v := .bool x60) (y_extract (ev_tv rfl rfl) rfl) ?_
                    refine L_val (v := .int .i64 x59) (y_assign (ev_tv rfl rfl)) ?_
                    refine L_val (v := .bool x60) (y_assign (ev_tv rfl rfl)) ?_
                    refine l_nil ?_
                    refine then_norm ?_
                    refine hK107 _ _ ?_
                    clear hK107
                    refine c_seq ?_
                    intro K109 hK109
                    refine c_region ?_
                    refine L_val (v := .int .i64 x53) (y_move (ev_tv rfl rfl)) ?_
                    refine L_val (v := .int .i64 x59) (y_move (ev_tv rfl rfl)) ?_
                    refine L_val (v := .bool (!decide ((x53 : Int) = x59))) (y_ine (ev_tv rfl rfl) (ev_tv rfl rfl)) ?_
                    refine L_val (v := .bool (!decide ((x53 : Int) = x59))) (y_move (ev_tv rfl rfl)) ?_
                    rcases (Decidable.em ((x53 : Int) = x59)).symm with hb110 | hb110
                    · replace H := H.1 hb110
                      have hq111 : Value.bool (!decide ((x53 : Int) = x59)) = Value.bool true := congrArg Value.bool (ndec_t hb110)
                      refine G_not (b' := true) (dj := 88) rfl rfl hq111 rfl ?_
                      refine G_not (b' := true) (dj := 88) rfl rfl hq111 rfl ?_
                      refine G_not (b' := true) (dj := 88) rfl rfl hq111 rfl ?_
                      refine L_val (v := .bool true) (y_pick_t (ev_tv rfl hq111) ev_c) ?_
                      refine l_nil ?_
                      refine then_norm ?_
                      refine hK109 _ _ ?_
                      clear hK109
                      refine cond_t (ev_tv rfl rfl) ?_
                      refine c_seq ?_
                      intro K112 hK112
                      refine c_region ?_
                      refine L_val (v := .bool false) (y_assign ev_c) ?_
                      refine l_nil ?_
                      refine then_norm ?_
                      refine hK112 _ _ ?_
                      clear hK112
                      refine c_ret ?_
                      refine block_ret ?_
                      refine block_ret ?_
                      refine then_ret ?_
                      refine then_ret ?_
                      refine block_ret ?_
                      refine then_ret ?_
                      exact body_1 rfl (ev_tv rfl rfl) H
                    · replace H := H.2 hb110
                      have hq111 : Value.bool (!decide ((x53 : Int) = x59)) = Value.bool false := congrArg Value.bool (ndec_f hb110)
                      refine G_val (dj := 88) rfl rfl hq111 (v := .bool x54) (y_move (ev_tv rfl rfl)) ?_
                      refine G_val (dj := 88) rfl rfl hq111 (v := .bool x60) (y_move (ev_tv rfl rfl)) ?_
                      refine G_val (dj := 88) rfl rfl hq111 (v := .bool (!(x54 == x60))) (y_bne Tryd.underlying4 (ev_tv rfl rfl) (ev_tv rfl rfl)) ?_
                      refine L_val (v := .bool (!(x54 == x60))) (y_pick_f (ev_tv rfl hq111) (ev_tv rfl rfl)) ?_
                      refine l_nil ?_
                      refine then_norm ?_
                      refine hK109 _ _ ?_
                      clear hK109
                      rcases Bool.eq_false_or_eq_true (!(x54 == x60)) with hb113 | hb113
                      · replace H := H.1 hb113
                        have hq114 : Value.bool (!(x54 == x60)) = Value.bool true := congrArg Value.bool hb113
                        refine cond_t (ev_tv rfl hq114) ?_
                        refine c_seq ?_
                        intro K115 hK115
                        refine c_region ?_
                        refine L_val (v := .bool false) (y_assign ev_c) ?_
                        refine l_nil ?_
                        refine then_norm ?_
                        refine hK115 _ _ ?_
                        clear hK115
                        refine c_ret ?_
                        refine block_ret ?_
                        refine block_ret ?_
                        refine then_ret ?_
                        refine then_ret ?_
                        refine block_ret ?_
                        refine then_ret ?_
                        exact body_1 rfl (ev_tv rfl rfl) H
                      · replace H := H.2 hb113
                        have hq114 : Value.bool (!(x54 == x60)) = Value.bool false := congrArg Value.bool hb113
                        refine cond_f (ev_tv rfl hq114) ?_
                        refine c_skip ?_
                        refine block_norm ?_
                        refine block_norm ?_
                        refine then_norm ?_
                        refine hK90 _ _ ?_
                        clear hK90
                        refine c_region ?_
                        refine L_val (v := .int .i64 v38) (y_move (ev_tv rfl hs85)) ?_
                        obtain ⟨r63, hr116⟩ : ∃ r63 : Int, r63 = IntKind.wrap .i64 (v38 + 1) := ⟨_, rfl⟩
                        replace H := H r63 hr116
                        refine L_val (v := .int .i64 r63) (y_add (ev_tv rfl rfl) ev_c hr116) ?_
                        refine L_val (v := .int .i64 r63) (y_assign (ev_tv rfl rfl)) ?_
                        refine l_nil ?_
                        refine then_norm ?_
                        obtain ⟨m64, hm117, H⟩ := H
                        exact ⟨_, rfl, (by repeat (first | exact agree_refl | exact hag81 | exact hag15 | refine agree_upd rfl ?_ | refine agree_via hag81 rfl ?_ | refine agree_via hag15 rfl ?_)), m64, hm117, _, rfl, H⟩
                  · replace H := H.2 hb103
                    have hq104 : Value.bool (decide ((x50 : Int) = 1)) = Value.bool false := congrArg Value.bool (decide_eq_false hb103)
                    refine cond_f (ev_tv rfl hq104) ?_
                    refine c_seq ?_
                    intro K118 hK118
                    refine c_region ?_
                    refine L_val (v := .bool (decide ((x50 : Int) = 2))) (y_ieq (ev_tv rfl rfl) ev_c) ?_
                    refine L_val (v := .bool (decide ((x50 : Int) = 2))) (y_assign (ev_tv rfl rfl)) ?_
                    refine l_nil ?_
                    refine then_norm ?_
                    refine hK118 _ _ ?_
                    clear hK118
                    rcases (Decidable.em ((x50 : Int) = 2)) with hb119 | hb119
                    · replace H := H.1 hb119
                      have hq120 : Value.bool (decide ((x50 : Int) = 2)) = Value.bool true := congrArg Value.bool (decide_eq_true hb119)
                      refine cond_t (ev_tv rfl hq120) ?_
                      refine c_seq ?_
                      intro K121 hK121
                      refine D_start Tryd.mixed rfl [5, 11] ?_
                      refine start_keep fun hS => ?_
                      refine D_pure (i := 0) (v := .pointer x7) rfl (by kernel_rfl) (W_none rfl) (fun _ => y_move (ev_tv rfl ((hag81 7 rfl).trans ((hag15 7 rfl).trans rfl)))) hS ?_
                      intro hS
                      refine D_pure (i := 1) (v := .pointer (some ⟨b47, 0 + 1, none⟩)) rfl (by kernel_rfl) (W_none rfl) (fun _ => Tryd.fa44_1 (ev_tv rfl rfl)) hS ?_
                      intro hS
                      refine D_pure (i := 3) (v := .pointer (some ⟨b47, 0 + 3, none⟩)) rfl (by kernel_rfl) (W_none rfl) (fun _ => Tryd.fa44_2 (ev_tv rfl rfl)) hS ?_
                      intro hS
                      refine D_pure (i := 6) (v := .pointer (some ⟨b16, 0, none⟩)) rfl (by kernel_rfl) (W_none rfl) (fun _ => y_move (ev_tv rfl ((hag81 9 rfl).trans rfl))) hS ?_
                      intro hS
                      refine D_pure (i := 7) (v := .pointer (some ⟨b47, 0 + 1, none⟩)) rfl (by kernel_rfl) (W_none rfl) (fun _ => Tryd.fa44_1 (ev_tv rfl rfl)) hS ?_
                      intro hS
                      refine D_pure (i := 9) (v := .pointer (some ⟨b47, 0 + 3, none⟩)) rfl (by kernel_rfl) (W_none rfl) (fun _ => Tryd.fa44_2 (ev_tv rfl rfl)) hS ?_
                      intro hS
                      obtain ⟨x65, x66, hc122, H⟩ := H
                      refine D_read (i := 2) (v := .agg #[.int .i64 x65, .string x66]) rfl (by kernel_rfl) (W_none rfl) (fun wx => CellsAt wx ⟨b47, 0 + 1, none⟩ [.int .i64 x65, .string x66]) hc122 (fun _ hcx => y_loadAgg Tryd.underlying42 rfl Tryd.type42 rfl (ev_tv rfl rfl) hcx) hS ?_
                      intro hS
                      obtain ⟨x67, hc123, H⟩ := H
                      refine D_read (i := 4) (v := .int .i64 x67) rfl (by kernel_rfl) (W_none rfl) (fun wx => World.cell? wx ⟨b47, 0 + 3, none⟩ = some (.int .i64 x67)) hc123 (fun _ hcx => y_load Tryd.underlying3 rfl (ev_tv rfl rfl) hcx) hS ?_
                      intro hS
                      obtain ⟨x68, x69, hc124, H⟩ := H
                      refine D_read (i := 8) (v := .agg #[.int .i64 x68, .string x69]) rfl (by kernel_rfl) (W_none rfl) (fun wx => CellsAt wx ⟨b47, 0 + 1, none⟩ [.int .i64 x68, .string x69]) hc124 (fun _ hcx => y_loadAgg Tryd.underlying42 rfl Tryd.type42 rfl (ev_tv rfl rfl) hcx) hS ?_
                      intro hS
                      obtain ⟨x70, hc125, H⟩ := H
                      refine D_read (i := 10) (v := .int .i64 x70) rfl (by kernel_rfl) (W_none rfl) (fun wx => World.cell? wx ⟨b47, 0 + 3, none⟩ = some (.int .i64 x70)) hc125 (fun _ hcx => y_load Tryd.underlying3 rfl (ev_tv rfl rfl) hcx) hS ?_
                      intro hS
                      refine D_only (i := 5) (by kernel_rfl) rfl ?_
                      refine O_call (i := 5) rfl (W_none rfl) (y_call Tryd.call15 (map_ev3 (ev_tv rfl rfl) (ev_tv rfl rfl) (ev_tv rfl rfl)) ev_f) (Calls.mono H ?_)
                      clear H
                      rintro _ w72 ⟨x71, rfl, H⟩
                      refine ⟨_, rfl, ?_⟩
                      obtain ⟨hs131, hs132, H⟩ := H
                      refine and_keep (SS_on hs131 (SS_on hs132 (SS_off (by kernel_rfl) (SS_off (by kernel_rfl) SS_nil)))) fun hS => ?_
                      refine D_only (i := 11) (by kernel_rfl) rfl ?_
                      refine O_call (i := 11) rfl (W_none rfl) (y_call Tryd.call16 (map_ev3 (ev_tv rfl rfl) (ev_tv rfl rfl) (ev_tv rfl rfl)) ev_f) (Calls.mono H ?_)
                      clear H
                      rintro _ w74 ⟨x73, rfl, H⟩
                      refine ⟨_, rfl, ?_⟩
                      refine and_keep (SS_off (by kernel_rfl) (SS_off (by kernel_rfl) (SS_off (by kernel_rfl) (SS_off (by kernel_rfl) SS_nil)))) fun hS => ?_
                      refine D_pure (i := 12) (v := .bool (!decide ((x71 : Int) = x73))) rfl (by kernel_rfl) (W_none rfl) (fun _ => y_ine (ev_tv rfl rfl) (ev_tv rfl rfl)) hS ?_
                      intro hS
                      refine D_done (by kernel_rfl) ?_
                      refine then_norm ?_
                      refine hK121 _ _ ?_
                      clear hK121
                      rcases (Decidable.em ((x71 : Int) = x73)).symm with hb126 | hb126
                      · replace H := H.1 hb126
                        have hq127 : Value.bool (!decide ((x71 : Int) = x73)) = Value.bool true := congrArg Value.bool (ndec_t hb126)
                        refine cond_t (ev_tv rfl hq127) ?_
                        refine c_seq ?_
                        intro K128 hK128
                        refine c_region ?_
                        refine L_val (v := .bool false) (y_assign ev_c) ?_
                        refine l_nil ?_
                        refine then_norm ?_
                        refine hK128 _ _ ?_
                        clear hK128
                        refine c_ret ?_
                        refine block_ret ?_
                        refine block_ret ?_
                        refine then_ret ?_
                        refine then_ret ?_
                        refine block_ret ?_
                        refine then_ret ?_
                        exact body_1 rfl (ev_tv rfl rfl) H
                      · replace H := H.2 hb126
                        have hq127 : Value.bool (!decide ((x71 : Int) = x73)) = Value.bool false := congrArg Value.bool (ndec_f hb126)
                        refine cond_f (ev_tv rfl hq127) ?_
                        refine c_skip ?_
                        refine block_norm ?_
                        refine block_norm ?_
                        refine then_norm ?_
                        refine hK90 _ _ ?_
                        clear hK90
                        refine c_region ?_
                        refine L_val (v := .int .i64 v38) (y_move (ev_tv rfl hs85)) ?_
                        obtain ⟨r75, hr129⟩ : ∃ r75 : Int, r75 = IntKind.wrap .i64 (v38 + 1) := ⟨_, rfl⟩
                        replace H := H r75 hr129
                        refine L_val (v := .int .i64 r75) (y_add (ev_tv rfl rfl) ev_c hr129) ?_
                        refine L_val (v := .int .i64 r75) (y_assign (ev_tv rfl rfl)) ?_
                        refine l_nil ?_
                        refine then_norm ?_
                        obtain ⟨m76, hm130, H⟩ := H
                        exact ⟨_, rfl, (by repeat (first | exact agree_refl | exact hag81 | exact hag15 | refine agree_upd rfl ?_ | refine agree_via hag81 rfl ?_ | refine agree_via hag15 rfl ?_)), m76, hm130, _, rfl, H⟩
                    · replace H := H.2 hb119
                      have hq120 : Value.bool (decide ((x50 : Int) = 2)) = Value.bool false := congrArg Value.bool (decide_eq_false hb119)
                      refine cond_f (ev_tv rfl hq120) ?_
                      refine c_seq ?_
                      intro K133 hK133
                      refine c_region ?_
                      refine L_val (v := .bool (decide ((x50 : Int) = 3))) (y_ieq (ev_tv rfl rfl) ev_c) ?_
                      refine L_val (v := .bool (decide ((x50 : Int) = 3))) (y_assign (ev_tv rfl rfl)) ?_
                      refine l_nil ?_
                      refine then_norm ?_
                      refine hK133 _ _ ?_
                      clear hK133
                      rcases (Decidable.em ((x50 : Int) = 3)) with hb134 | hb134
                      · replace H := H.1 hb134
                        have hq135 : Value.bool (decide ((x50 : Int) = 3)) = Value.bool true := congrArg Value.bool (decide_eq_true hb134)
                        refine cond_t (ev_tv rfl hq135) ?_
                        refine c_seq ?_
                        intro K136 hK136
                        refine D_start Tryd.mixed rfl [3, 7] ?_
                        refine start_keep fun hS => ?_
                        refine D_pure (i := 0) (v := .pointer x7) rfl (by kernel_rfl) (W_none rfl) (fun _ => y_move (ev_tv rfl ((hag81 7 rfl).trans ((hag15 7 rfl).trans rfl)))) hS ?_
                        intro hS
                        refine D_pure (i := 1) (v := .pointer (some ⟨b47, 0 + 1, none⟩)) rfl (by kernel_rfl) (W_none rfl) (fun _ => Tryd.fa44_1 (ev_tv rfl rfl)) hS ?_
                        intro hS
                        refine D_pure (i := 4) (v := .pointer (some ⟨b16, 0, none⟩)) rfl (by kernel_rfl) (W_none rfl) (fun _ => y_move (ev_tv rfl ((hag81 9 rfl).trans rfl))) hS ?_
                        intro hS
                        refine D_pure (i := 5) (v := .pointer (some ⟨b47, 0 + 1, none⟩)) rfl (by kernel_rfl) (W_none rfl) (fun _ => Tryd.fa44_1 (ev_tv rfl rfl)) hS ?_
                        intro hS
                        obtain ⟨x77, x78, hc137, H⟩ := H
                        refine D_read (i := 2) (v := .agg #[.int .i64 x77, .string x78]) rfl (by kernel_rfl) (W_none rfl) (fun wx => CellsAt wx ⟨b47, 0 + 1, none⟩ [.int .i64 x77, .string x78]) hc137 (fun _ hcx => y_loadAgg Tryd.underlying42 rfl Tryd.type42 rfl (ev_tv rfl rfl) hcx) hS ?_
                        intro hS
                        obtain ⟨x79, x80, hc138, H⟩ := H
                        refine D_read (i := 6) (v := .agg #[.int .i64 x79, .string x80]) rfl (by kernel_rfl) (W_none rfl) (fun wx => CellsAt wx ⟨b47, 0 + 1, none⟩ [.int .i64 x79, .string x80]) hc138 (fun _ hcx => y_loadAgg Tryd.underlying42 rfl Tryd.type42 rfl (ev_tv rfl rfl) hcx) hS ?_
                        intro hS
                        refine D_only (i := 3) (by kernel_rfl) rfl ?_
                        refine O_call (i := 3) rfl (W_none rfl) (y_call Tryd.call17 (map_ev2 (ev_tv rfl rfl) (ev_tv rfl rfl)) ev_f) (Calls.mono H ?_)
                        clear H
                        rintro _ w82 ⟨x81, rfl, H⟩
                        refine ⟨_, rfl, ?_⟩
                        obtain ⟨hs144, H⟩ := H
                        refine and_keep (SS_on hs144 (SS_off (by kernel_rfl) SS_nil)) fun hS => ?_
                        refine D_only (i := 7) (by kernel_rfl) rfl ?_
                        refine O_call (i := 7) rfl (W_none rfl) (y_call Tryd.call18 (map_ev2 (ev_tv rfl rfl) (ev_tv rfl rfl)) ev_f) (Calls.mono H ?_)
                        clear H
                        rintro _ w84 ⟨x83, rfl, H⟩
                        refine ⟨_, rfl, ?_⟩
                        refine and_keep (SS_off (by kernel_rfl) (SS_off (by kernel_rfl) SS_nil)) fun hS => ?_
                        refine D_pure (i := 8) (v := .bool (!(x81 == x83))) rfl (by kernel_rfl) (W_none rfl) (fun _ => y_bne Tryd.underlying4 (ev_tv rfl rfl) (ev_tv rfl rfl)) hS ?_
                        intro hS
                        refine D_done (by kernel_rfl) ?_
                        refine then_norm ?_
                        refine hK136 _ _ ?_
                        clear hK136
                        rcases Bool.eq_false_or_eq_true (!(x81 == x83)) with hb139 | hb139
                        · replace H := H.1 hb139
                          have hq140 : Value.bool (!(x81 == x83)) = Value.bool true := congrArg Value.bool hb139
                          refine cond_t (ev_tv rfl hq140) ?_
                          refine c_seq ?_
                          intro K141 hK141
                          refine c_region ?_
                          refine L_val (v := .bool false) (y_assign ev_c) ?_
                          refine l_nil ?_
                          refine then_norm ?_
                          refine hK141 _ _ ?_
                          clear hK141
                          refine c_ret ?_
                          refine block_ret ?_
                          refine block_ret ?_
                          refine then_ret ?_
                          refine then_ret ?_
                          refine block_ret ?_
                          refine then_ret ?_
                          exact body_1 rfl (ev_tv rfl rfl) H
                        · replace H := H.2 hb139
                          have hq140 : Value.bool (!(x81 == x83)) = Value.bool false := congrArg Value.bool hb139
                          refine cond_f (ev_tv rfl hq140) ?_
                          refine c_skip ?_
                          refine block_norm ?_
                          refine block_norm ?_
                          refine then_norm ?_
                          refine hK90 _ _ ?_
                          clear hK90
                          refine c_region ?_
                          refine L_val (v := .int .i64 v38) (y_move (ev_tv rfl hs85)) ?_
                          obtain ⟨r85, hr142⟩ : ∃ r85 : Int, r85 = IntKind.wrap .i64 (v38 + 1) := ⟨_, rfl⟩
                          replace H := H r85 hr142
                          refine L_val (v := .int .i64 r85) (y_add (ev_tv rfl rfl) ev_c hr142) ?_
                          refine L_val (v := .int .i64 r85) (y_assign (ev_tv rfl rfl)) ?_
                          refine l_nil ?_
                          refine then_norm ?_
                          obtain ⟨m86, hm143, H⟩ := H
                          exact ⟨_, rfl, (by repeat (first | exact agree_refl | exact hag81 | exact hag15 | refine agree_upd rfl ?_ | refine agree_via hag81 rfl ?_ | refine agree_via hag15 rfl ?_)), m86, hm143, _, rfl, H⟩
                      · replace H := H.2 hb134
                        have hq135 : Value.bool (decide ((x50 : Int) = 3)) = Value.bool false := congrArg Value.bool (decide_eq_false hb134)
                        refine cond_f (ev_tv rfl hq135) ?_
                        refine c_seq ?_
                        intro K145 hK145
                        refine c_region ?_
                        refine L_val (v := .bool (decide ((x50 : Int) = 4))) (y_ieq (ev_tv rfl rfl) ev_c) ?_
                        refine L_val (v := .bool (decide ((x50 : Int) = 4))) (y_assign (ev_tv rfl rfl)) ?_
                        refine l_nil ?_
                        refine then_norm ?_
                        refine hK145 _ _ ?_
                        clear hK145
                        rcases (Decidable.em ((x50 : Int) = 4)) with hb146 | hb146
                        · replace H := H.1 hb146
                          have hq147 : Value.bool (decide ((x50 : Int) = 4)) = Value.bool true := congrArg Value.bool (decide_eq_true hb146)
                          refine cond_t (ev_tv rfl hq147) ?_
                          refine c_seq ?_
                          intro K148 hK148
                          refine D_start Tryd.mixed rfl [4, 9] ?_
                          refine start_keep fun hS => ?_
                          refine D_pure (i := 0) (v := .pointer x7) rfl (by kernel_rfl) (W_none rfl) (fun _ => y_move (ev_tv rfl ((hag81 7 rfl).trans ((hag15 7 rfl).trans rfl)))) hS ?_
                          intro hS
                          refine D_pure (i := 1) (v := .pointer (some ⟨b47, 0 + 1, none⟩)) rfl (by kernel_rfl) (W_none rfl) (fun _ => Tryd.fa44_1 (ev_tv rfl rfl)) hS ?_
                          intro hS
                          refine D_pure (i := 2) (v := .pointer (some ⟨b47, 0 + 1, none⟩)) rfl (by kernel_rfl) (W_none rfl) (fun _ => Tryd.fa42_0 (ev_tv rfl rfl)) hS ?_
                          intro hS
                          refine D_pure (i := 5) (v := .pointer (some ⟨b16, 0, none⟩)) rfl (by kernel_rfl) (W_none rfl) (fun _ => y_move (ev_tv rfl ((hag81 9 rfl).trans rfl))) hS ?_
                          intro hS
                          refine D_pure (i := 6) (v := .pointer (some ⟨b47, 0 + 1, none⟩)) rfl (by kernel_rfl) (W_none rfl) (fun _ => Tryd.fa44_1 (ev_tv rfl rfl)) hS ?_
                          intro hS
                          refine D_pure (i := 7) (v := .pointer (some ⟨b47, 0 + 1, none⟩)) rfl (by kernel_rfl) (W_none rfl) (fun _ => Tryd.fa42_0 (ev_tv rfl rfl)) hS ?_
                          intro hS
                          obtain ⟨x87, hc149, H⟩ := H
                          refine D_read (i := 3) (v := .int .i64 x87) rfl (by kernel_rfl) (W_none rfl) (fun wx => World.cell? wx ⟨b47, 0 + 1, none⟩ = some (.int .i64 x87)) hc149 (fun _ hcx => y_load Tryd.underlying3 rfl (ev_tv rfl rfl) hcx) hS ?_
                          intro hS
                          obtain ⟨x88, hc150, H⟩ := H
                          refine D_read (i := 8) (v := .int .i64 x88) rfl (by kernel_rfl) (W_none rfl) (fun wx => World.cell? wx ⟨b47, 0 + 1, none⟩ = some (.int .i64 x88)) hc150 (fun _ hcx => y_load Tryd.underlying3 rfl (ev_tv rfl rfl) hcx) hS ?_
                          intro hS
                          refine D_only (i := 4) (by kernel_rfl) rfl ?_
                          refine O_call (i := 4) rfl (W_none rfl) (y_call Tryd.call19 (map_ev2 (ev_tv rfl rfl) (ev_tv rfl rfl)) ev_f) (Calls.mono H ?_)
                          clear H
                          rintro _ w90 ⟨x89, rfl, H⟩
                          refine ⟨_, rfl, ?_⟩
                          obtain ⟨hs156, H⟩ := H
                          refine and_keep (SS_on hs156 (SS_off (by kernel_rfl) SS_nil)) fun hS => ?_
                          refine D_only (i := 9) (by kernel_rfl) rfl ?_
                          refine O_call (i := 9) rfl (W_none rfl) (y_call Tryd.call20 (map_ev2 (ev_tv rfl rfl) (ev_tv rfl rfl)) ev_f) (Calls.mono H ?_)
                          clear H
                          rintro _ w92 ⟨x91, rfl, H⟩
                          refine ⟨_, rfl, ?_⟩
                          refine and_keep (SS_off (by kernel_rfl) (SS_off (by kernel_rfl) SS_nil)) fun hS => ?_
                          refine D_pure (i := 10) (v := .bool (!decide ((x89 : Int) = x91))) rfl (by kernel_rfl) (W_none rfl) (fun _ => y_ine (ev_tv rfl rfl) (ev_tv rfl rfl)) hS ?_
                          intro hS
                          refine D_done (by kernel_rfl) ?_
                          refine then_norm ?_
                          refine hK148 _ _ ?_
                          clear hK148
                          rcases (Decidable.em ((x89 : Int) = x91)).symm with hb151 | hb151
                          · replace H := H.1 hb151
                            have hq152 : Value.bool (!decide ((x89 : Int) = x91)) = Value.bool true := congrArg Value.bool (ndec_t hb151)
                            refine cond_t (ev_tv rfl hq152) ?_
                            refine c_seq ?_
                            intro K153 hK153
                            refine c_region ?_
                            refine L_val (v := .bool false) (y_assign ev_c) ?_
                            refine l_nil ?_
                            refine then_norm ?_
                            refine hK153 _ _ ?_
                            clear hK153
                            refine c_ret ?_
                            refine block_ret ?_
                            refine block_ret ?_
                            refine then_ret ?_
                            refine then_ret ?_
                            refine block_ret ?_
                            refine then_ret ?_
                            exact body_1 rfl (ev_tv rfl rfl) H
                          · replace H := H.2 hb151
                            have hq152 : Value.bool (!decide ((x89 : Int) = x91)) = Value.bool false := congrArg Value.bool (ndec_f hb151)
                            refine cond_f (ev_tv rfl hq152) ?_
                            refine c_skip ?_
                            refine block_norm ?_
                            refine block_norm ?_
                            refine then_norm ?_
                            refine hK90 _ _ ?_
                            clear hK90
                            refine c_region ?_
                            refine L_val (v := .int .i64 v38) (y_move (ev_tv rfl hs85)) ?_
                            obtain ⟨r93, hr154⟩ : ∃ r93 : Int, r93 = IntKind.wrap .i64 (v38 + 1) := ⟨_, rfl⟩
                            replace H := H r93 hr154
                            refine L_val (v := .int .i64 r93) (y_add (ev_tv rfl rfl) ev_c hr154) ?_
                            refine L_val (v := .int .i64 r93) (y_assign (ev_tv rfl rfl)) ?_
                            refine l_nil ?_
                            refine then_norm ?_
                            obtain ⟨m94, hm155, H⟩ := H
                            exact ⟨_, rfl, (by repeat (first | exact agree_refl | exact hag81 | exact hag15 | refine agree_upd rfl ?_ | refine agree_via hag81 rfl ?_ | refine agree_via hag15 rfl ?_)), m94, hm155, _, rfl, H⟩
                        · replace H := H.2 hb146
                          have hq147 : Value.bool (decide ((x50 : Int) = 4)) = Value.bool false := congrArg Value.bool (decide_eq_false hb146)
                          refine cond_f (ev_tv rfl hq147) ?_
                          refine c_seq ?_
                          intro K157 hK157
                          refine c_region ?_
                          refine L_val (v := .bool (decide ((x50 : Int) = 5))) (y_ieq (ev_tv rfl rfl) ev_c) ?_
                          refine L_val (v := .bool (decide ((x50 : Int) = 5))) (y_assign (ev_tv rfl rfl)) ?_
                          refine l_nil ?_
                          refine then_norm ?_
                          refine hK157 _ _ ?_
                          clear hK157
                          rcases (Decidable.em ((x50 : Int) = 5)) with hb158 | hb158
                          · replace H := H.1 hb158
                            have hq159 : Value.bool (decide ((x50 : Int) = 5)) = Value.bool true := congrArg Value.bool (decide_eq_true hb158)
                            refine cond_t (ev_tv rfl hq159) ?_
                            refine c_seq ?_
                            intro K160 hK160
                            refine c_region ?_
                            refine L_val (v := .pointer x3) (y_move (ev_tv rfl ((hag81 5 rfl).trans ((hag15 5 rfl).trans rfl)))) ?_
                            refine L_call (y_call Tryd.call21 (map_ev1 (ev_tv rfl rfl)) ev_f) (Calls.mono H ?_)
                            clear H
                            rintro _ w96 ⟨x95, x95l, x95c, rfl, H⟩
                            refine ⟨_, rfl, ?_⟩
                            refine L_val (v := .slice x95 x95l x95c) (y_assign (ev_tv rfl rfl)) ?_
                            refine l_nil ?_
                            refine then_norm ?_
                            refine hK160 _ _ ?_
                            clear hK160
                            refine c_seq ?_
                            intro K161 hK161
                            refine c_seq ?_
                            intro K162 hK162
                            refine c_region ?_
                            refine L_val (v := .slice x95 x95l x95c) (y_move (ev_tv rfl rfl)) ?_
                            refine L_val (v := .int .i64 ((x95l : Nat) : Int)) (y_len Tryd.underlying38 rfl (map_ev1 (ev_tv rfl rfl))) ?_
                            refine L_val (v := .pointer (some ⟨b16, 0, none⟩)) (y_move (ev_tv rfl ((hag81 9 rfl).trans rfl))) ?_
                            refine L_val (v := .pointer (some ⟨b16, 0, none⟩)) (y_nilCheck (ev_tv rfl rfl)) ?_
                            refine L_val (v := .pointer (some ⟨b16, 0 + 3, none⟩)) (Tryd.fa40_3 (ev_tv rfl rfl)) ?_
                            obtain ⟨x98, x98l, x98c, hc163, H⟩ := H
                            refine L_val (v := .slice x98 x98l x98c) (y_load Tryd.underlying38 rfl (ev_tv rfl rfl) hc163) ?_
                            refine L_val (v := .int .i64 ((x98l : Nat) : Int)) (y_len Tryd.underlying38 rfl (map_ev1 (ev_tv rfl rfl))) ?_
                            refine L_val (v := .bool (!decide ((((x95l : Nat) : Int) : Int) = ((x98l : Nat) : Int)))) (y_ine (ev_tv rfl rfl) (ev_tv rfl rfl)) ?_
                            refine l_nil ?_
                            refine then_norm ?_
                            refine hK162 _ _ ?_
                            clear hK162
                            rcases (Decidable.em ((((x95l : Nat) : Int) : Int) = ((x98l : Nat) : Int))).symm with hb164 | hb164
                            · replace H := H.1 hb164
                              have hq165 : Value.bool (!decide ((((x95l : Nat) : Int) : Int) = ((x98l : Nat) : Int))) = Value.bool true := congrArg Value.bool (ndec_t hb164)
                              refine cond_t (ev_tv rfl hq165) ?_
                              refine c_seq ?_
                              intro K166 hK166
                              refine c_region ?_
                              refine L_val (v := .bool false) (y_assign ev_c) ?_
                              refine l_nil ?_
                              refine then_norm ?_
                              refine hK166 _ _ ?_
                              clear hK166
                              refine c_ret ?_
                              refine then_ret ?_
                              refine block_ret ?_
                              refine block_ret ?_
                              refine then_ret ?_
                              refine then_ret ?_
                              refine block_ret ?_
                              refine then_ret ?_
                              exact body_1 rfl (ev_tv rfl rfl) H
                            · replace H := H.2 hb164
                              have hq165 : Value.bool (!decide ((((x95l : Nat) : Int) : Int) = ((x98l : Nat) : Int))) = Value.bool false := congrArg Value.bool (ndec_f hb164)
                              refine cond_f (ev_tv rfl hq165) ?_
                              refine c_skip ?_
                              refine then_norm ?_
                              refine hK161 _ _ ?_
                              clear hK161
                              refine c_seq ?_
                              intro K167 hK167
                              refine c_region ?_
                              refine L_val (v := .int .i64 0) (y_assign ev_c) ?_
                              refine l_nil ?_
                              refine then_norm ?_
                              refine hK167 _ _ ?_
                              clear hK167
                              refine c_block ?_
                              obtain ⟨I168, ⟨m172, HI173⟩, H⟩ := H
                              refine loop_fr ([(4, 4), (17, 17), (144, 161)]) (fun m ff ww => ∃ (v99 : Int), ff 17 = (.int .i64 v99 : Value) ∧ I168 m v99 ww) m172 ⟨0, rfl, HI173⟩ ?_
                              rintro m100 f169 w101 hag170 ⟨v99, hs174, HI171⟩
                              replace H := H m100 v99 w101 HI171
                              refine c_seq ?_
                              intro K175 hK175
                              refine c_seq ?_
                              intro K176 hK176
                              refine c_region ?_
                              refine L_val (v := .int .i64 v99) (y_move (ev_tv rfl hs174)) ?_
                              refine L_val (v := .slice x95 x95l x95c) (y_move (ev_tv rfl ((hag170 16 rfl).trans rfl))) ?_
                              refine L_val (v := .int .i64 ((x95l : Nat) : Int)) (y_len Tryd.underlying38 rfl (map_ev1 (ev_tv rfl rfl))) ?_
                              refine L_val (v := .bool (decide ((v99 : Int) < ((x95l : Nat) : Int)))) (y_lss (ev_tv rfl rfl) (ev_tv rfl rfl)) ?_
                              refine l_nil ?_
                              refine then_norm ?_
                              refine hK176 _ _ ?_
                              clear hK176
                              rcases (Decidable.em ((v99 : Int) < ((x95l : Nat) : Int))) with hb177 | hb177
                              · replace H := H.1 hb177
                                have hq178 : Value.bool (decide ((v99 : Int) < ((x95l : Nat) : Int))) = Value.bool true := congrArg Value.bool (decide_eq_true hb177)
                                refine cond_t (ev_tv rfl hq178) ?_
                                refine c_skip ?_
                                refine then_norm ?_
                                refine hK175 _ _ ?_
                                clear hK175
                                refine c_seq ?_
                                intro K179 hK179
                                refine c_block ?_
                                refine c_seq ?_
                                intro K180 hK180
                                refine D_start Tryd.mixed rfl [] ?_
                                refine start_keep fun hS => ?_
                                refine D_pure (i := 0) (v := .slice x95 x95l x95c) rfl (by kernel_rfl) (W_none rfl) (fun _ => y_move (ev_tv rfl ((hag170 16 rfl).trans rfl))) hS ?_
                                intro hS
                                refine D_pure (i := 1) (v := .int .i64 v99) rfl (by kernel_rfl) (W_none rfl) (fun _ => y_move (ev_tv rfl hs174)) hS ?_
                                intro hS
                                obtain ⟨b102, o103, rfl, H⟩ := H
                                obtain ⟨hi181, hi182, H⟩ := H
                                refine D_pure (i := 2) (v := .pointer (some ⟨b102, o103 + (v99 : Int).toNat, none⟩)) rfl (by kernel_rfl) (W_none rfl) (fun _ => y_ix1 Tryd.underlying38 Tryd.type3 rfl (ev_tv rfl rfl) (ev_tv rfl rfl) hi181 hi182) hS ?_
                                intro hS
                                refine D_pure (i := 4) (v := .pointer (some ⟨b16, 0, none⟩)) rfl (by kernel_rfl) (W_none rfl) (fun _ => y_move (ev_tv rfl ((hag170 9 rfl).trans ((hag81 9 rfl).trans rfl)))) hS ?_
                                intro hS
                                refine D_pure (i := 5) (v := .pointer (some ⟨b16, 0, none⟩)) rfl (by kernel_rfl) (W_none rfl) (fun _ => y_nilCheck (ev_tv rfl rfl)) hS ?_
                                intro hS
                                refine D_pure (i := 6) (v := .pointer (some ⟨b16, 0 + 3, none⟩)) rfl (by kernel_rfl) (W_none rfl) (fun _ => Tryd.fa40_3 (ev_tv rfl rfl)) hS ?_
                                intro hS
                                refine D_pure (i := 8) (v := .int .i64 v99) rfl (by kernel_rfl) (W_none rfl) (fun _ => y_move (ev_tv rfl hs174)) hS ?_
                                intro hS
                                obtain ⟨x104, hc183, H⟩ := H
                                refine D_read (i := 3) (v := .int .i64 x104) rfl (by kernel_rfl) (W_none rfl) (fun wx => World.cell? wx ⟨b102, o103 + (v99 : Int).toNat, none⟩ = some (.int .i64 x104)) hc183 (fun _ hcx => y_load Tryd.underlying3 rfl (ev_tv rfl rfl) hcx) hS ?_
                                intro hS
                                obtain ⟨x105, x105l, x105c, hc184, H⟩ := H
                                refine D_read (i := 7) (v := .slice x105 x105l x105c) rfl (by kernel_rfl) (W_none rfl) (fun wx => World.cell? wx ⟨b16, 0 + 3, none⟩ = some (.slice x105 x105l x105c)) hc184 (fun _ hcx => y_load Tryd.underlying38 rfl (ev_tv rfl rfl) hcx) hS ?_
                                intro hS
                                obtain ⟨b106, o107, rfl, H⟩ := H
                                obtain ⟨hi185, hi186, H⟩ := H
                                refine D_pure (i := 9) (v := .pointer (some ⟨b106, o107 + (v99 : Int).toNat, none⟩)) rfl (by kernel_rfl) (W_none rfl) (fun _ => y_ix1 Tryd.underlying38 Tryd.type3 rfl (ev_tv rfl rfl) (ev_tv rfl rfl) hi185 hi186) hS ?_
                                intro hS
                                obtain ⟨x108, hc187, H⟩ := H
                                refine D_read (i := 10) (v := .int .i64 x108) rfl (by kernel_rfl) (W_none rfl) (fun wx => World.cell? wx ⟨b106, o107 + (v99 : Int).toNat, none⟩ = some (.int .i64 x108)) hc187 (fun _ hcx => y_load Tryd.underlying3 rfl (ev_tv rfl rfl) hcx) hS ?_
                                intro hS
                                refine D_pure (i := 11) (v := .bool (!decide ((x104 : Int) = x108))) rfl (by kernel_rfl) (W_none rfl) (fun _ => y_ine (ev_tv rfl rfl) (ev_tv rfl rfl)) hS ?_
                                intro hS
                                refine D_done (by kernel_rfl) ?_
                                refine then_norm ?_
                                refine hK180 _ _ ?_
                                clear hK180
                                rcases (Decidable.em ((x104 : Int) = x108)).symm with hb188 | hb188
                                · replace H := H.1 hb188
                                  have hq189 : Value.bool (!decide ((x104 : Int) = x108)) = Value.bool true := congrArg Value.bool (ndec_t hb188)
                                  refine cond_t (ev_tv rfl hq189) ?_
                                  refine c_seq ?_
                                  intro K190 hK190
                                  refine c_region ?_
                                  refine L_val (v := .bool false) (y_assign ev_c) ?_
                                  refine l_nil ?_
                                  refine then_norm ?_
                                  refine hK190 _ _ ?_
                                  clear hK190
                                  refine c_ret ?_
                                  refine block_ret ?_
                                  refine then_ret ?_
                                  refine then_ret ?_
                                  refine block_ret ?_
                                  refine block_ret ?_
                                  refine block_ret ?_
                                  refine then_ret ?_
                                  refine then_ret ?_
                                  refine block_ret ?_
                                  refine then_ret ?_
                                  exact body_1 rfl (ev_tv rfl rfl) H
                                · replace H := H.2 hb188
                                  have hq189 : Value.bool (!decide ((x104 : Int) = x108)) = Value.bool false := congrArg Value.bool (ndec_f hb188)
                                  refine cond_f (ev_tv rfl hq189) ?_
                                  refine c_skip ?_
                                  refine block_norm ?_
                                  refine then_norm ?_
                                  refine hK179 _ _ ?_
                                  clear hK179
                                  refine c_region ?_
                                  refine L_val (v := .int .i64 v99) (y_move (ev_tv rfl hs174)) ?_
                                  obtain ⟨r109, hr191⟩ : ∃ r109 : Int, r109 = IntKind.wrap .i64 (v99 + 1) := ⟨_, rfl⟩
                                  replace H := H r109 hr191
                                  refine L_val (v := .int .i64 r109) (y_add (ev_tv rfl rfl) ev_c hr191) ?_
                                  refine L_val (v := .int .i64 r109) (y_assign (ev_tv rfl rfl)) ?_
                                  refine l_nil ?_
                                  refine then_norm ?_
                                  obtain ⟨m110, hm192, H⟩ := H
                                  exact ⟨_, rfl, (by repeat (first | exact agree_refl | exact hag170 | exact hag81 | exact hag15 | refine agree_upd rfl ?_ | refine agree_via hag170 rfl ?_ | refine agree_via hag81 rfl ?_ | refine agree_via hag15 rfl ?_)), m110, hm192, _, rfl, H⟩
                              · replace H := H.2 hb177
                                have hq178 : Value.bool (decide ((v99 : Int) < ((x95l : Nat) : Int))) = Value.bool false := congrArg Value.bool (decide_eq_false hb177)
                                refine cond_f (ev_tv rfl hq178) ?_
                                refine c_exit ?_
                                refine then_exit ?_
                                refine then_exit ?_
                                refine block_hit ?_
                                refine block_norm ?_
                                refine block_norm ?_
                                refine then_norm ?_
                                refine hK90 _ _ ?_
                                clear hK90
                                refine c_region ?_
                                refine L_val (v := .int .i64 v38) (y_move (ev_tv rfl ((hag170 10 rfl).trans hs85))) ?_
                                obtain ⟨r111, hr193⟩ : ∃ r111 : Int, r111 = IntKind.wrap .i64 (v38 + 1) := ⟨_, rfl⟩
                                replace H := H r111 hr193
                                refine L_val (v := .int .i64 r111) (y_add (ev_tv rfl rfl) ev_c hr193) ?_
                                refine L_val (v := .int .i64 r111) (y_assign (ev_tv rfl rfl)) ?_
                                refine l_nil ?_
                                refine then_norm ?_
                                obtain ⟨m112, hm194, H⟩ := H
                                exact ⟨_, rfl, (by repeat (first | exact agree_refl | exact hag170 | exact hag81 | exact hag15 | refine agree_upd rfl ?_ | refine agree_via hag170 rfl ?_ | refine agree_via hag81 rfl ?_ | refine agree_via hag15 rfl ?_)), m112, hm194, _, rfl, H⟩
                          · replace H := H.2 hb158
                            have hq159 : Value.bool (decide ((x50 : Int) = 5)) = Value.bool false := congrArg Value.bool (decide_eq_false hb158)
                            refine cond_f (ev_tv rfl hq159) ?_
                            refine c_skip ?_
                            refine block_norm ?_
                            refine block_norm ?_
                            refine then_norm ?_
                            refine hK90 _ _ ?_
                            clear hK90
                            refine c_region ?_
                            refine L_val (v := .int .i64 v38) (y_move (ev_tv rfl hs85)) ?_
                            obtain ⟨r113, hr195⟩ : ∃ r113 : Int, r113 = IntKind.wrap .i64 (v38 + 1) := ⟨_, rfl⟩
                            replace H := H r113 hr195
                            refine L_val (v := .int .i64 r113) (y_add (ev_tv rfl rfl) ev_c hr195) ?_
                            refine L_val (v := .int .i64 r113) (y_assign (ev_tv rfl rfl)) ?_
                            refine l_nil ?_
                            refine then_norm ?_
                            obtain ⟨m114, hm196, H⟩ := H
                            exact ⟨_, rfl, (by repeat (first | exact agree_refl | exact hag81 | exact hag15 | refine agree_upd rfl ?_ | refine agree_via hag81 rfl ?_ | refine agree_via hag15 rfl ?_)), m114, hm196, _, rfl, H⟩
                · replace H := H.2 hb88
                  have hq89 : Value.bool (decide ((v38 : Int) < ((a_l2l : Nat) : Int))) = Value.bool false := congrArg Value.bool (decide_eq_false hb88)
                  refine cond_f (ev_tv rfl hq89) ?_
                  refine c_exit ?_
                  refine then_exit ?_
                  refine then_exit ?_
                  refine block_hit ?_
                  refine then_norm ?_
                  exact hK40 _ _ (by repeat (first | exact agree_refl | exact hag81 | exact hag15 | refine agree_upd rfl ?_ | refine agree_via hag81 rfl ?_ | refine agree_via hag15 rfl ?_)) H
              · clear H
                intro f37 w18 hag38 HJ39
                have H := hJ36  w18 HJ39
                clear hJ36
                refine c_seq ?_
                intro K41 hK41
                refine c_region ?_
                refine L_val (v := .pointer x7) (y_move (ev_tv rfl ((hag38 7 rfl).trans ((hag15 7 rfl).trans rfl)))) ?_
                refine L_call (y_call Tryd.call22 (map_ev1 (ev_tv rfl rfl)) ev_f) (Calls.mono H ?_)
                clear H
                rintro _ w20 ⟨x19, x19l, x19c, rfl, H⟩
                refine ⟨_, rfl, ?_⟩
                refine L_val (v := .slice x19 x19l x19c) (y_assign (ev_tv rfl rfl)) ?_
                refine l_nil ?_
                refine then_norm ?_
                refine hK41 _ _ ?_
                clear hK41
                refine c_seq ?_
                intro K42 hK42
                refine c_seq ?_
                intro K43 hK43
                refine c_region ?_
                refine L_val (v := .slice x19 x19l x19c) (y_move (ev_tv rfl rfl)) ?_
                refine L_val (v := .int .i64 ((x19l : Nat) : Int)) (y_len Tryd.underlying51 rfl (map_ev1 (ev_tv rfl rfl))) ?_
                refine L_val (v := .pointer (some ⟨b16, 0, none⟩)) (y_move (ev_tv rfl ((hag38 9 rfl).trans rfl))) ?_
                refine L_val (v := .pointer (some ⟨b16, 0, none⟩)) (y_nilCheck (ev_tv rfl rfl)) ?_
                refine L_val (v := .pointer (some ⟨b16, 0 + 1, none⟩)) (Tryd.fa40_1 (ev_tv rfl rfl)) ?_
                obtain ⟨x22, x22l, x22c, hc44, H⟩ := H
                refine L_val (v := .slice x22 x22l x22c) (y_load Tryd.underlying37 rfl (ev_tv rfl rfl) hc44) ?_
                refine L_val (v := .int .i64 ((x22l : Nat) : Int)) (y_len Tryd.underlying37 rfl (map_ev1 (ev_tv rfl rfl))) ?_
                refine L_val (v := .bool (!decide ((((x19l : Nat) : Int) : Int) = ((x22l : Nat) : Int)))) (y_ine (ev_tv rfl rfl) (ev_tv rfl rfl)) ?_
                refine l_nil ?_
                refine then_norm ?_
                refine hK43 _ _ ?_
                clear hK43
                rcases (Decidable.em ((((x19l : Nat) : Int) : Int) = ((x22l : Nat) : Int))).symm with hb45 | hb45
                · replace H := H.1 hb45
                  have hq46 : Value.bool (!decide ((((x19l : Nat) : Int) : Int) = ((x22l : Nat) : Int))) = Value.bool true := congrArg Value.bool (ndec_t hb45)
                  refine cond_t (ev_tv rfl hq46) ?_
                  refine c_seq ?_
                  intro K47 hK47
                  refine c_region ?_
                  refine L_val (v := .bool false) (y_assign ev_c) ?_
                  refine l_nil ?_
                  refine then_norm ?_
                  refine hK47 _ _ ?_
                  clear hK47
                  refine c_ret ?_
                  refine then_ret ?_
                  exact body_1 rfl (ev_tv rfl rfl) H
                · replace H := H.2 hb45
                  have hq46 : Value.bool (!decide ((((x19l : Nat) : Int) : Int) = ((x22l : Nat) : Int))) = Value.bool false := congrArg Value.bool (ndec_f hb45)
                  refine cond_f (ev_tv rfl hq46) ?_
                  refine c_skip ?_
                  refine then_norm ?_
                  refine hK42 _ _ ?_
                  clear hK42
                  refine c_seq ?_
                  intro K48 hK48
                  refine c_seq ?_
                  intro K49 hK49
                  refine c_region ?_
                  refine L_val (v := .int .i64 0) (y_assign ev_c) ?_
                  refine l_nil ?_
                  refine then_norm ?_
                  refine hK49 _ _ ?_
                  clear hK49
                  refine c_block ?_
                  obtain ⟨I50, ⟨m54, HI55⟩, H⟩ := H
                  refine loop_fr ([(4, 4), (19, 19), (172, 190)]) (fun m ff ww => ∃ (v23 : Int), ff 19 = (.int .i64 v23 : Value) ∧ I50 m v23 ww) m54 ⟨0, rfl, HI55⟩ ?_
                  rintro m24 f51 w25 hag52 ⟨v23, hs56, HI53⟩
                  replace H := H m24 v23 w25 HI53
                  refine c_seq ?_
                  intro K57 hK57
                  refine c_seq ?_
                  intro K58 hK58
                  refine c_region ?_
                  refine L_val (v := .int .i64 v23) (y_move (ev_tv rfl hs56)) ?_
                  refine L_val (v := .slice x19 x19l x19c) (y_move (ev_tv rfl ((hag52 18 rfl).trans rfl))) ?_
                  refine L_val (v := .int .i64 ((x19l : Nat) : Int)) (y_len Tryd.underlying51 rfl (map_ev1 (ev_tv rfl rfl))) ?_
                  refine L_val (v := .bool (decide ((v23 : Int) < ((x19l : Nat) : Int)))) (y_lss (ev_tv rfl rfl) (ev_tv rfl rfl)) ?_
                  refine l_nil ?_
                  refine then_norm ?_
                  refine hK58 _ _ ?_
                  clear hK58
                  rcases (Decidable.em ((v23 : Int) < ((x19l : Nat) : Int))) with hb59 | hb59
                  · replace H := H.1 hb59
                    have hq60 : Value.bool (decide ((v23 : Int) < ((x19l : Nat) : Int))) = Value.bool true := congrArg Value.bool (decide_eq_true hb59)
                    refine cond_t (ev_tv rfl hq60) ?_
                    refine c_skip ?_
                    refine then_norm ?_
                    refine hK57 _ _ ?_
                    clear hK57
                    refine c_seq ?_
                    intro K61 hK61
                    refine c_block ?_
                    refine c_seq ?_
                    intro K62 hK62
                    refine D_start Tryd.mixed rfl [] ?_
                    refine start_keep fun hS => ?_
                    refine D_pure (i := 0) (v := .slice x19 x19l x19c) rfl (by kernel_rfl) (W_none rfl) (fun _ => y_move (ev_tv rfl ((hag52 18 rfl).trans rfl))) hS ?_
                    intro hS
                    refine D_pure (i := 1) (v := .int .i64 v23) rfl (by kernel_rfl) (W_none rfl) (fun _ => y_move (ev_tv rfl hs56)) hS ?_
                    intro hS
                    obtain ⟨b26, o27, rfl, H⟩ := H
                    obtain ⟨hi63, hi64, H⟩ := H
                    refine D_pure (i := 2) (v := .pointer (some ⟨b26, o27 + (v23 : Int).toNat * 2, none⟩)) rfl (by kernel_rfl) (W_none rfl) (fun _ => y_ix Tryd.underlying51 Tryd.type42 rfl (ev_tv rfl rfl) (ev_tv rfl rfl) hi63 hi64) hS ?_
                    intro hS
                    refine D_pure (i := 4) (v := .pointer (some ⟨b16, 0, none⟩)) rfl (by kernel_rfl) (W_none rfl) (fun _ => y_move (ev_tv rfl ((hag52 9 rfl).trans ((hag38 9 rfl).trans rfl)))) hS ?_
                    intro hS
                    refine D_pure (i := 5) (v := .pointer (some ⟨b16, 0, none⟩)) rfl (by kernel_rfl) (W_none rfl) (fun _ => y_nilCheck (ev_tv rfl rfl)) hS ?_
                    intro hS
                    refine D_pure (i := 6) (v := .pointer (some ⟨b16, 0 + 1, none⟩)) rfl (by kernel_rfl) (W_none rfl) (fun _ => Tryd.fa40_1 (ev_tv rfl rfl)) hS ?_
                    intro hS
                    refine D_pure (i := 8) (v := .int .i64 v23) rfl (by kernel_rfl) (W_none rfl) (fun _ => y_move (ev_tv rfl hs56)) hS ?_
                    intro hS
                    obtain ⟨x28, x29, hc65, H⟩ := H
                    refine D_read (i := 3) (v := .agg #[.int .i64 x28, .string x29]) rfl (by kernel_rfl) (W_none rfl) (fun wx => CellsAt wx ⟨b26, o27 + (v23 : Int).toNat * 2, none⟩ [.int .i64 x28, .string x29]) hc65 (fun _ hcx => y_loadAgg Tryd.underlying42 rfl Tryd.type42 rfl (ev_tv rfl rfl) hcx) hS ?_
                    intro hS
                    obtain ⟨x30, x30l, x30c, hc66, H⟩ := H
                    refine D_read (i := 7) (v := .slice x30 x30l x30c) rfl (by kernel_rfl) (W_none rfl) (fun wx => World.cell? wx ⟨b16, 0 + 1, none⟩ = some (.slice x30 x30l x30c)) hc66 (fun _ hcx => y_load Tryd.underlying37 rfl (ev_tv rfl rfl) hcx) hS ?_
                    intro hS
                    obtain ⟨b31, o32, rfl, H⟩ := H
                    obtain ⟨hi67, hi68, H⟩ := H
                    refine D_pure (i := 9) (v := .pointer (some ⟨b31, o32 + (v23 : Int).toNat * 4, none⟩)) rfl (by kernel_rfl) (W_none rfl) (fun _ => y_ix Tryd.underlying37 Tryd.type54 rfl (ev_tv rfl rfl) (ev_tv rfl rfl) hi67 hi68) hS ?_
                    intro hS
                    refine D_pure (i := 10) (v := .pointer (some ⟨b31, o32 + (v23 : Int).toNat * 4, none⟩)) rfl (by kernel_rfl) (W_none rfl) (fun _ => Tryd.fa54_0 (ev_tv rfl rfl)) hS ?_
                    intro hS
                    obtain ⟨x33, x34, hc69, H⟩ := H
                    refine D_read (i := 11) (v := .agg #[.int .i64 x33, .string x34]) rfl (by kernel_rfl) (W_none rfl) (fun wx => CellsAt wx ⟨b31, o32 + (v23 : Int).toNat * 4, none⟩ [.int .i64 x33, .string x34]) hc69 (fun _ hcx => y_loadAgg Tryd.underlying42 rfl Tryd.type42 rfl (ev_tv rfl rfl) hcx) hS ?_
                    intro hS
                    obtain ⟨q35, hg71, hc70, H⟩ := H
                    refine D_pure (i := 12) (v := .bool q35) rfl (by kernel_rfl) (W_none rfl) (fun _ => y_nev (ev_tv rfl rfl) (ev_tv rfl rfl) (hg71 _) (hc70 _)) hS ?_
                    intro hS
                    refine D_done (by kernel_rfl) ?_
                    refine then_norm ?_
                    refine hK62 _ _ ?_
                    clear hK62
                    rcases Bool.eq_false_or_eq_true q35 with hb72 | hb72
                    · replace H := H.1 hb72
                      have hq73 : Value.bool (q35) = Value.bool true := congrArg Value.bool hb72
                      refine cond_t (ev_tv rfl hq73) ?_
                      refine c_seq ?_
                      intro K74 hK74
                      refine c_region ?_
                      refine L_val (v := .bool false) (y_assign ev_c) ?_
                      refine l_nil ?_
                      refine then_norm ?_
                      refine hK74 _ _ ?_
                      clear hK74
                      refine c_ret ?_
                      refine block_ret ?_
                      refine then_ret ?_
                      refine then_ret ?_
                      refine block_ret ?_
                      refine then_ret ?_
                      exact body_1 rfl (ev_tv rfl rfl) H
                    · replace H := H.2 hb72
                      have hq73 : Value.bool (q35) = Value.bool false := congrArg Value.bool hb72
                      refine cond_f (ev_tv rfl hq73) ?_
                      refine c_skip ?_
                      refine block_norm ?_
                      refine then_norm ?_
                      refine hK61 _ _ ?_
                      clear hK61
                      refine c_region ?_
                      refine L_val (v := .int .i64 v23) (y_move (ev_tv rfl hs56)) ?_
                      obtain ⟨r36, hr75⟩ : ∃ r36 : Int, r36 = IntKind.wrap .i64 (v23 + 1) := ⟨_, rfl⟩
                      replace H := H r36 hr75
                      refine L_val (v := .int .i64 r36) (y_add (ev_tv rfl rfl) ev_c hr75) ?_
                      refine L_val (v := .int .i64 r36) (y_assign (ev_tv rfl rfl)) ?_
                      refine l_nil ?_
                      refine then_norm ?_
                      obtain ⟨m37, hm76, H⟩ := H
                      exact ⟨_, rfl, (by repeat (first | exact agree_refl | exact hag52 | exact hag38 | exact hag15 | refine agree_upd rfl ?_ | refine agree_via hag52 rfl ?_ | refine agree_via hag38 rfl ?_ | refine agree_via hag15 rfl ?_)), m37, hm76, _, rfl, H⟩
                  · replace H := H.2 hb59
                    have hq60 : Value.bool (decide ((v23 : Int) < ((x19l : Nat) : Int))) = Value.bool false := congrArg Value.bool (decide_eq_false hb59)
                    refine cond_f (ev_tv rfl hq60) ?_
                    refine c_exit ?_
                    refine then_exit ?_
                    refine then_exit ?_
                    refine block_hit ?_
                    refine then_norm ?_
                    refine hK48 _ _ ?_
                    clear hK48
                    refine c_seq ?_
                    intro K77 hK77
                    refine c_region ?_
                    refine L_val (v := .bool true) (y_assign ev_c) ?_
                    refine l_nil ?_
                    refine then_norm ?_
                    refine hK77 _ _ ?_
                    clear hK77
                    refine c_ret ?_
                    exact body_1 rfl (ev_tv rfl rfl) H
  · replace H := H.2 hb6
    have hq7 : Value.bool (x11) = Value.bool false := congrArg Value.bool hb6
    refine L_val (v := .bool true) (y_not_f (ev_tv rfl hq7)) ?_
    refine L_val (v := .bool true) (y_move (ev_tv rfl rfl)) ?_
    refine G_not (b' := true) (dj := 32) rfl rfl rfl rfl ?_
    refine G_not (b' := true) (dj := 32) rfl rfl rfl rfl ?_
    refine L_val (v := .bool true) (y_pick_t (ev_tv rfl rfl) ev_c) ?_
    refine l_nil ?_
    refine then_norm ?_
    refine hK5 _ _ ?_
    clear hK5
    refine cond_t (ev_tv rfl rfl) ?_
    refine c_seq ?_
    intro K199 hK199
    refine c_region ?_
    refine L_val (v := .bool false) (y_assign ev_c) ?_
    refine l_nil ?_
    refine then_norm ?_
    refine hK199 _ _ ?_
    clear hK199
    refine c_ret ?_
    refine then_ret ?_
    exact body_1 rfl (ev_tv rfl rfl) H

/-- parapet/parapetlaw19.NamecNobody -/
def Vc6 (a_k1 : Int) (a_k2 : ByteArray) (a_n3 : Int) (a_path4 : ByteArray) (w : World) (R : Ending → World → Prop) : Prop :=
  (∀ (b5 : Nat) (w6 : World), b5 = World.heapSize w → w6 = World.alloc w (.cells #[.int .i64 a_k1, .string a_k2] 42) → (Calls Tryd.prog 28 #[.int .i64 1] w6 fun e w8 => ∃ x7 : Option Addr, e = .returned (.pointer x7) ∧ (Calls Tryd.prog 12 #[.pointer none, .int .i64 a_n3] w8 fun e w12 => ∃ x10 : Option Addr, ∃ x11 : Int, e = .returned (.tuple #[.pointer x10, .int .i64 x11]) ∧ (∃ x14 : Int, ∃ x15 : ByteArray, CellsAt w12 ⟨b5, 0, none⟩ [.int .i64 x14, .string x15] ∧ (Calls Tryd.prog 13 #[.pointer none, .agg #[.int .i64 x14, .string x15]] w12 fun e w18 => ∃ x16 : Int, ∃ x17 : Bool, e = .returned (.tuple #[.int .i64 x16, .bool x17]) ∧ (Calls Tryd.prog 30 #[] w18 fun e w23 => ∃ x20 : Int, ∃ x21 : Int, ∃ x22 : Int, e = .returned (.agg #[.int .i64 x20, .int .i64 x21, .int .i64 x22]) ∧ (Calls Tryd.prog 29 #[.pointer none, .iface 59 (.pointer x7), .agg #[.int .i64 x20, .int .i64 x21, .int .i64 x22], .string a_path4] w23 fun e w27 => ∃ x25 : Int, ∃ x26 : Int, e = .returned (.tuple #[.int .i64 x25, .int .i64 x26]) ∧ (Calls Tryd.prog 30 #[] w27 fun e w32 => ∃ x29 : Int, ∃ x30 : Int, ∃ x31 : Int, e = .returned (.agg #[.int .i64 x29, .int .i64 x30, .int .i64 x31]) ∧ (Calls Tryd.prog 31 #[.pointer none, .iface 59 (.pointer x7), .agg #[.int .i64 x29, .int .i64 x30, .int .i64 x31], .string a_path4] w32 fun e w37 => ∃ x34 : Int, ∃ x35 : ByteArray, ∃ x36 : Int, e = .returned (.tuple #[.int .i64 x34, .string x35, .int .i64 x36]) ∧ (Calls Tryd.prog 9 #[] w37 fun e w40 => ∃ x39 : Bool, e = .returned (.bool x39) ∧ (((x39 = true) → (((x10 = none) → ((((x11 : Int) = 1) → ((((x16 : Int) = 0) → (((x17 = true) → R (.returned (.bool false)) w40) ∧ ((x17 = false) → ((((x25 : Int) = 0) → ((((x26 : Int) = 6) → ((((x34 : Int) = 0) → ((((x35.toList == (⟨#[]⟩ : ByteArray).toList) = true) → ((((x36 : Int) = 6) → (∃ x42 : Int, ∃ x43 : ByteArray, CellsAt w40 ⟨b5, 0, none⟩ [.int .i64 x42, .string x43] ∧ (Calls Tryd.prog 15 #[.pointer none, .agg #[.int .i64 x42, .string x43], .int .i64 a_n3] w40 fun e w45 => ∃ x44 : Int, e = .returned (.int .i64 x44) ∧ ((((x44 : Int) = 6) → (∃ x47 : Int, ∃ x48 : ByteArray, CellsAt w45 ⟨b5, 0, none⟩ [.int .i64 x47, .string x48] ∧ (Calls Tryd.prog 17 #[.pointer none, .agg #[.int .i64 x47, .string x48]] w45 fun e w50 => ∃ x49 : Bool, e = .returned (.bool x49) ∧ (((x49 = true) → R (.returned (.bool false)) w50) ∧ ((x49 = false) → (Calls Tryd.prog 19 #[.pointer none, .int .i64 a_n3] w50 fun e w53 => ∃ x52 : Int, e = .returned (.int .i64 x52) ∧ ((((x52 : Int) = 0) → (Calls Tryd.prog 22 #[.pointer none] w53 fun e w56 => ∃ x55 : Option Addr, ∃ x55l : Nat, ∃ x55c : Nat, e = .returned (.slice x55 x55l x55c) ∧ R (.returned (.bool (decide ((((x55l : Nat) : Int) : Int) = 0)))) w56)) ∧ ((¬ ((x52 : Int) = 0)) → R (.returned (.bool false)) w53)))))))) ∧ ((¬ ((x44 : Int) = 6)) → R (.returned (.bool false)) w45))))) ∧ ((¬ ((x36 : Int) = 6)) → R (.returned (.bool false)) w40))) ∧ (((x35.toList == (⟨#[]⟩ : ByteArray).toList) = false) → R (.returned (.bool false)) w40))) ∧ ((¬ ((x34 : Int) = 0)) → R (.returned (.bool false)) w40))) ∧ ((¬ ((x26 : Int) = 6)) → R (.returned (.bool false)) w40))) ∧ ((¬ ((x25 : Int) = 0)) → R (.returned (.bool false)) w40))))) ∧ ((¬ ((x16 : Int) = 0)) → R (.returned (.bool false)) w40))) ∧ ((¬ ((x11 : Int) = 1)) → R (.returned (.bool false)) w40))) ∧ ((x10 ≠ none) → R (.returned (.bool false)) w40))) ∧ ((x39 = false) → R (.returned (.bool false)) w40))))))))))))

theorem vc6 {a_k1 : Int} {a_k2 : ByteArray} {a_n3 : Int} {a_path4 : ByteArray} {w : World} {R : Ending → World → Prop} (H : Vc6 a_k1 a_k2 a_n3 a_path4 w R) : Calls Tryd.prog 6 #[.agg #[.int .i64 a_k1, .string a_k2], .int .i64 a_n3, .string a_path4] w R := by
  unfold Vc6 at H
  refine calls_start [.agg #[.int .i64 a_k1, .string a_k2], .int .i64 a_n3, .string a_path4] Tryd.func6 rfl Tryd.ntmps6 rfl ?_
  refine c_seq ?_
  intro K1 hK1
  refine c_region ?_
  obtain ⟨b5, hb2⟩ : ∃ b5 : Nat, b5 = World.heapSize w := ⟨_, rfl⟩
  obtain ⟨w6, hw3⟩ : ∃ w6 : World, w6 = World.alloc w (.cells #[.int .i64 a_k1, .string a_k2] 42) := ⟨_, rfl⟩
  replace H := H b5 w6 hb2 hw3
  refine L_val (v := .pointer (some ⟨b5, 0, none⟩)) (y_box (ev_tv rfl rfl) rfl hb2 hw3) ?_
  refine L_val (v := .bool false) (y_assign ev_c) ?_
  refine l_nil ?_
  refine then_norm ?_
  refine hK1 _ _ ?_
  clear hK1
  refine c_seq ?_
  intro K4 hK4
  refine c_region ?_
  refine L_val (v := .pointer none) (y_assign ev_c) ?_
  refine l_nil ?_
  refine then_norm ?_
  refine hK4 _ _ ?_
  clear hK4
  refine c_seq ?_
  intro K5 hK5
  refine c_region ?_
  refine L_call (y_call Tryd.call28 (map_ev1 ev_c) ev_f) (Calls.mono H ?_)
  clear H
  rintro _ w8 ⟨x7, rfl, H⟩
  refine ⟨_, rfl, ?_⟩
  refine L_val (v := .pointer x7) (y_assign (ev_tv rfl rfl)) ?_
  refine l_nil ?_
  refine then_norm ?_
  refine hK5 _ _ ?_
  clear hK5
  refine c_seq ?_
  intro K6 hK6
  refine c_region ?_
  refine L_val (v := .int .i64 a_n3) (y_move (ev_tv rfl rfl)) ?_
  refine L_call (y_call Tryd.call12 (map_ev2 ev_c (ev_tv rfl rfl)) ev_f) (Calls.mono H ?_)
  clear H
  rintro _ w12 ⟨x10, x11, rfl, H⟩
  refine ⟨_, rfl, ?_⟩
  refine L_val (v := .tuple #[.pointer x10, .int .i64 x11]) (y_move (ev_tv rfl rfl)) ?_
  refine L_val (v := .pointer x10) (y_extract (ev_tv rfl rfl) rfl) ?_
  refine L_val (v := .int .i64 x11) (y_extract (ev_tv rfl rfl) rfl) ?_
  refine L_val (v := .pointer x10) (y_assign (ev_tv rfl rfl)) ?_
  refine L_val (v := .int .i64 x11) (y_assign (ev_tv rfl rfl)) ?_
  refine l_nil ?_
  refine then_norm ?_
  refine hK6 _ _ ?_
  clear hK6
  refine c_seq ?_
  intro K7 hK7
  refine c_region ?_
  refine L_val (v := .pointer none) (y_move (ev_tv rfl rfl)) ?_
  obtain ⟨x14, x15, hc8, H⟩ := H
  refine L_val (v := .agg #[.int .i64 x14, .string x15]) (y_loadAgg Tryd.underlying42 rfl Tryd.type42 rfl (ev_tv rfl rfl) hc8) ?_
  refine L_call (y_call Tryd.call13 (map_ev2 (ev_tv rfl rfl) (ev_tv rfl rfl)) ev_f) (Calls.mono H ?_)
  clear H
  rintro _ w18 ⟨x16, x17, rfl, H⟩
  refine ⟨_, rfl, ?_⟩
  refine L_val (v := .tuple #[.int .i64 x16, .bool x17]) (y_move (ev_tv rfl rfl)) ?_
  refine L_val (v := .int .i64 x16) (y_extract (ev_tv rfl rfl) rfl) ?_
  refine L_val (v := .bool x17) (y_extract (ev_tv rfl rfl) rfl) ?_
  refine L_val (v := .int .i64 x16) (y_assign (ev_tv rfl rfl)) ?_
  refine L_val (v := .bool x17) (y_assign (ev_tv rfl rfl)) ?_
  refine l_nil ?_
  refine then_norm ?_
  refine hK7 _ _ ?_
  clear hK7
  refine c_seq ?_
  intro K9 hK9
  refine c_region ?_
  refine L_val (v := .pointer none) (y_move (ev_tv rfl rfl)) ?_
  refine L_val (v := .pointer x7) (y_move (ev_tv rfl rfl)) ?_
  refine L_val (v := .iface 59 (.pointer x7)) (y_mki (by kernel_rfl) (ev_tv rfl rfl)) ?_
  refine L_call (y_call Tryd.call30 map_ev0 ev_f) (Calls.mono H ?_)
  clear H
  rintro _ w23 ⟨x20, x21, x22, rfl, H⟩
  refine ⟨_, rfl, ?_⟩
  refine L_val (v := .string a_path4) (y_move (ev_tv rfl rfl)) ?_
  refine L_call (y_call Tryd.call29 (map_ev4 (ev_tv rfl rfl) (ev_tv rfl rfl) (ev_tv rfl rfl) (ev_tv rfl rfl)) ev_f) (Calls.mono H ?_)
  clear H
  rintro _ w27 ⟨x25, x26, rfl, H⟩
  refine ⟨_, rfl, ?_⟩
  refine L_val (v := .tuple #[.int .i64 x25, .int .i64 x26]) (y_move (ev_tv rfl rfl)) ?_
  refine L_val (v := .int .i64 x25) (y_extract (ev_tv rfl rfl) rfl) ?_
  refine L_val (v := .int .i64 x26) (y_extract (ev_tv rfl rfl) rfl) ?_
  refine L_val (v := .int .i64 x25) (y_assign (ev_tv rfl rfl)) ?_
  refine L_val (v := .int .i64 x26) (y_assign (ev_tv rfl rfl)) ?_
  refine l_nil ?_
  refine then_norm ?_
  refine hK9 _ _ ?_
  clear hK9
  refine c_seq ?_
  intro K10 hK10
  refine c_region ?_
  refine L_val (v := .pointer none) (y_move (ev_tv rfl rfl)) ?_
  refine L_val (v := .pointer x7) (y_move (ev_tv rfl rfl)) ?_
  refine L_val (v := .iface 59 (.pointer x7)) (y_mki (by kernel_rfl) (ev_tv rfl rfl)) ?_
  refine L_call (y_call Tryd.call30 map_ev0 ev_f) (Calls.mono H ?_)
  clear H
  rintro _ w32 ⟨x29, x30, x31, rfl, H⟩
  refine ⟨_, rfl, ?_⟩
  refine L_val (v := .string a_path4) (y_move (ev_tv rfl rfl)) ?_
  refine L_call (y_call Tryd.call31 (map_ev4 (ev_tv rfl rfl) (ev_tv rfl rfl) (ev_tv rfl rfl) (ev_tv rfl rfl)) ev_f) (Calls.mono H ?_)
  clear H
  rintro _ w37 ⟨x34, x35, x36, rfl, H⟩
  refine ⟨_, rfl, ?_⟩
  refine L_val (v := .tuple #[.int .i64 x34, .string x35, .int .i64 x36]) (y_move (ev_tv rfl rfl)) ?_
  refine L_val (v := .int .i64 x34) (y_extract (ev_tv rfl rfl) rfl) ?_
  refine L_val (v := .string x35) (y_extract (ev_tv rfl rfl) rfl) ?_
  refine L_val (v := .int .i64 x36) (y_extract (ev_tv rfl rfl) rfl) ?_
  refine L_val (v := .int .i64 x34) (y_assign (ev_tv rfl rfl)) ?_
  refine L_val (v := .string x35) (y_assign (ev_tv rfl rfl)) ?_
  refine L_val (v := .int .i64 x36) (y_assign (ev_tv rfl rfl)) ?_
  refine l_nil ?_
  refine then_norm ?_
  refine hK10 _ _ ?_
  clear hK10
  refine c_seq ?_
  intro K11 hK11
  refine c_region ?_
  refine L_call (y_call Tryd.call9 map_ev0 ev_f) (Calls.mono H ?_)
  clear H
  rintro _ w40 ⟨x39, rfl, H⟩
  refine ⟨_, rfl, ?_⟩
  refine L_val (v := .bool x39) (y_move (ev_tv rfl rfl)) ?_
  rcases Bool.eq_false_or_eq_true x39 with hb12 | hb12
  · replace H := H.1 hb12
    have hq13 : Value.bool (x39) = Value.bool true := congrArg Value.bool hb12
    refine G_val (dj := 50) rfl rfl hq13 (v := .pointer x10) (y_move (ev_tv rfl rfl)) ?_
    refine G_val (dj := 50) rfl rfl hq13 (v := .bool (x10.isNone)) (y_peq Tryd.underlying33 (ev_tv rfl rfl) ev_c) ?_
    refine L_val (v := .bool (x10.isNone)) (y_pick_t (ev_tv rfl hq13) (ev_tv rfl rfl)) ?_
    refine L_val (v := .bool (x10.isNone)) (y_move (ev_tv rfl rfl)) ?_
    rcases (Classical.em (x10 = none)) with hb14 | hb14
    · replace H := H.1 hb14
      have hq15 : Value.bool (x10.isNone) = Value.bool true := congrArg Value.bool (isn_t hb14)
      refine G_val (dj := 54) rfl rfl hq15 (v := .int .i64 x11) (y_move (ev_tv rfl rfl)) ?_
      refine G_val (dj := 54) rfl rfl hq15 (v := .bool (decide ((x11 : Int) = 1))) (y_ieq (ev_tv rfl rfl) ev_c) ?_
      refine L_val (v := .bool (decide ((x11 : Int) = 1))) (y_pick_t (ev_tv rfl hq15) (ev_tv rfl rfl)) ?_
      refine L_val (v := .bool (decide ((x11 : Int) = 1))) (y_move (ev_tv rfl rfl)) ?_
      rcases (Decidable.em ((x11 : Int) = 1)) with hb16 | hb16
      · replace H := H.1 hb16
        have hq17 : Value.bool (decide ((x11 : Int) = 1)) = Value.bool true := congrArg Value.bool (decide_eq_true hb16)
        refine G_val (dj := 58) rfl rfl hq17 (v := .int .i64 x16) (y_move (ev_tv rfl rfl)) ?_
        refine G_val (dj := 58) rfl rfl hq17 (v := .bool (decide ((x16 : Int) = 0))) (y_ieq (ev_tv rfl rfl) ev_c) ?_
        refine L_val (v := .bool (decide ((x16 : Int) = 0))) (y_pick_t (ev_tv rfl hq17) (ev_tv rfl rfl)) ?_
        refine L_val (v := .bool (decide ((x16 : Int) = 0))) (y_move (ev_tv rfl rfl)) ?_
        rcases (Decidable.em ((x16 : Int) = 0)) with hb18 | hb18
        · replace H := H.1 hb18
          have hq19 : Value.bool (decide ((x16 : Int) = 0)) = Value.bool true := congrArg Value.bool (decide_eq_true hb18)
          refine G_val (dj := 62) rfl rfl hq19 (v := .bool x17) (y_move (ev_tv rfl rfl)) ?_
          rcases Bool.eq_false_or_eq_true x17 with hb20 | hb20
          · replace H := H.1 hb20
            have hq21 : Value.bool (x17) = Value.bool true := congrArg Value.bool hb20
            refine G_val (dj := 62) rfl rfl hq19 (v := .bool false) (y_not_t (ev_tv rfl hq21)) ?_
            refine L_val (v := .bool false) (y_pick_t (ev_tv rfl hq19) (ev_tv rfl rfl)) ?_
            refine L_val (v := .bool false) (y_move (ev_tv rfl rfl)) ?_
            refine G_not (b' := false) (dj := 66) rfl rfl rfl rfl ?_
            refine G_not (b' := false) (dj := 66) rfl rfl rfl rfl ?_
            refine L_val (v := .bool false) (y_pick_f (ev_tv rfl rfl) ev_c) ?_
            refine L_val (v := .bool false) (y_move (ev_tv rfl rfl)) ?_
            refine G_not (b' := false) (dj := 70) rfl rfl rfl rfl ?_
            refine G_not (b' := false) (dj := 70) rfl rfl rfl rfl ?_
            refine L_val (v := .bool false) (y_pick_f (ev_tv rfl rfl) ev_c) ?_
            refine L_val (v := .bool false) (y_move (ev_tv rfl rfl)) ?_
            refine G_not (b' := false) (dj := 74) rfl rfl rfl rfl ?_
            refine G_not (b' := false) (dj := 74) rfl rfl rfl rfl ?_
            refine L_val (v := .bool false) (y_pick_f (ev_tv rfl rfl) ev_c) ?_
            refine L_val (v := .bool false) (y_move (ev_tv rfl rfl)) ?_
            refine G_not (b' := false) (dj := 78) rfl rfl rfl rfl ?_
            refine G_not (b' := false) (dj := 78) rfl rfl rfl rfl ?_
            refine L_val (v := .bool false) (y_pick_f (ev_tv rfl rfl) ev_c) ?_
            refine L_val (v := .bool false) (y_move (ev_tv rfl rfl)) ?_
            refine G_not (b' := false) (dj := 82) rfl rfl rfl rfl ?_
            refine G_not (b' := false) (dj := 82) rfl rfl rfl rfl ?_
            refine L_val (v := .bool false) (y_pick_f (ev_tv rfl rfl) ev_c) ?_
            refine L_val (v := .bool false) (y_move (ev_tv rfl rfl)) ?_
            refine G_not (b' := false) (dj := 86) rfl rfl rfl rfl ?_
            refine G_not (b' := false) (dj := 86) rfl rfl rfl rfl ?_
            refine G_not (b' := false) (dj := 86) rfl rfl rfl rfl ?_
            refine G_not (b' := false) (dj := 86) rfl rfl rfl rfl ?_
            refine G_not (b' := false) (dj := 86) rfl rfl rfl rfl ?_
            refine L_val (v := .bool false) (y_pick_f (ev_tv rfl rfl) ev_c) ?_
            refine L_val (v := .bool false) (y_move (ev_tv rfl rfl)) ?_
            refine G_not (b' := false) (dj := 93) rfl rfl rfl rfl ?_
            refine G_not (b' := false) (dj := 93) rfl rfl rfl rfl ?_
            refine G_not (b' := false) (dj := 93) rfl rfl rfl rfl ?_
            refine G_not (b' := false) (dj := 93) rfl rfl rfl rfl ?_
            refine L_val (v := .bool false) (y_pick_f (ev_tv rfl rfl) ev_c) ?_
            refine L_val (v := .bool false) (y_move (ev_tv rfl rfl)) ?_
            refine G_not (b' := false) (dj := 99) rfl rfl rfl rfl ?_
            refine G_not (b' := false) (dj := 99) rfl rfl rfl rfl ?_
            refine G_not (b' := false) (dj := 99) rfl rfl rfl rfl ?_
            refine G_not (b' := false) (dj := 99) rfl rfl rfl rfl ?_
            refine L_val (v := .bool false) (y_pick_f (ev_tv rfl rfl) ev_c) ?_
            refine L_val (v := .bool false) (y_move (ev_tv rfl rfl)) ?_
            refine G_not (b' := false) (dj := 105) rfl rfl rfl rfl ?_
            refine G_not (b' := false) (dj := 105) rfl rfl rfl rfl ?_
            refine G_not (b' := false) (dj := 105) rfl rfl rfl rfl ?_
            refine G_not (b' := false) (dj := 105) rfl rfl rfl rfl ?_
            refine L_val (v := .bool false) (y_pick_f (ev_tv rfl rfl) ev_c) ?_
            refine L_val (v := .bool false) (y_assign (ev_tv rfl rfl)) ?_
            refine l_nil ?_
            refine then_norm ?_
            refine hK11 _ _ ?_
            clear hK11
            refine c_ret ?_
            exact body_1 rfl (ev_tv rfl rfl) H
          · replace H := H.2 hb20
            have hq21 : Value.bool (x17) = Value.bool false := congrArg Value.bool hb20
            refine G_val (dj := 62) rfl rfl hq19 (v := .bool true) (y_not_f (ev_tv rfl hq21)) ?_
            refine L_val (v := .bool true) (y_pick_t (ev_tv rfl hq19) (ev_tv rfl rfl)) ?_
            refine L_val (v := .bool true) (y_move (ev_tv rfl rfl)) ?_
            refine G_val (dj := 66) rfl rfl rfl (v := .int .i64 x25) (y_move (ev_tv rfl rfl)) ?_
            refine G_val (dj := 66) rfl rfl rfl (v := .bool (decide ((x25 : Int) = 0))) (y_ieq (ev_tv rfl rfl) ev_c) ?_
            refine L_val (v := .bool (decide ((x25 : Int) = 0))) (y_pick_t (ev_tv rfl rfl) (ev_tv rfl rfl)) ?_
            refine L_val (v := .bool (decide ((x25 : Int) = 0))) (y_move (ev_tv rfl rfl)) ?_
            rcases (Decidable.em ((x25 : Int) = 0)) with hb22 | hb22
            · replace H := H.1 hb22
              have hq23 : Value.bool (decide ((x25 : Int) = 0)) = Value.bool true := congrArg Value.bool (decide_eq_true hb22)
              refine G_val (dj := 70) rfl rfl hq23 (v := .int .i64 x26) (y_move (ev_tv rfl rfl)) ?_
              refine G_val (dj := 70) rfl rfl hq23 (v := .bool (decide ((x26 : Int) = 6))) (y_ieq (ev_tv rfl rfl) ev_c) ?_
              refine L_val (v := .bool (decide ((x26 : Int) = 6))) (y_pick_t (ev_tv rfl hq23) (ev_tv rfl rfl)) ?_
              refine L_val (v := .bool (decide ((x26 : Int) = 6))) (y_move (ev_tv rfl rfl)) ?_
              rcases (Decidable.em ((x26 : Int) = 6)) with hb24 | hb24
              · replace H := H.1 hb24
                have hq25 : Value.bool (decide ((x26 : Int) = 6)) = Value.bool true := congrArg Value.bool (decide_eq_true hb24)
                refine G_val (dj := 74) rfl rfl hq25 (v := .int .i64 x34) (y_move (ev_tv rfl rfl)) ?_
                refine G_val (dj := 74) rfl rfl hq25 (v := .bool (decide ((x34 : Int) = 0))) (y_ieq (ev_tv rfl rfl) ev_c) ?_
                refine L_val (v := .bool (decide ((x34 : Int) = 0))) (y_pick_t (ev_tv rfl hq25) (ev_tv rfl rfl)) ?_
                refine L_val (v := .bool (decide ((x34 : Int) = 0))) (y_move (ev_tv rfl rfl)) ?_
                rcases (Decidable.em ((x34 : Int) = 0)) with hb26 | hb26
                · replace H := H.1 hb26
                  have hq27 : Value.bool (decide ((x34 : Int) = 0)) = Value.bool true := congrArg Value.bool (decide_eq_true hb26)
                  refine G_val (dj := 78) rfl rfl hq27 (v := .string x35) (y_move (ev_tv rfl rfl)) ?_
                  refine G_val (dj := 78) rfl rfl hq27 (v := .bool (x35.toList == (⟨#[]⟩ : ByteArray).toList)) (y_seq (ev_tv rfl rfl) ev_c) ?_
                  refine L_val (v := .bool (x35.toList == (⟨#[]⟩ : ByteArray).toList)) (y_pick_t (ev_tv rfl hq27) (ev_tv rfl rfl)) ?_
                  refine L_val (v := .bool (x35.toList == (⟨#[]⟩ : ByteArray).toList)) (y_move (ev_tv rfl rfl)) ?_
                  rcases Bool.eq_false_or_eq_true (x35.toList == (⟨#[]⟩ : ByteArray).toList) with hb28 | hb28
                  · replace H := H.1 hb28
                    have hq29 : Value.bool ((x35.toList == (⟨#[]⟩ : ByteArray).toList)) = Value.bool true := congrArg Value.bool hb28
                    refine G_val (dj := 82) rfl rfl hq29 (v := .int .i64 x36) (y_move (ev_tv rfl rfl)) ?_
                    refine G_val (dj := 82) rfl rfl hq29 (v := .bool (decide ((x36 : Int) = 6))) (y_ieq (ev_tv rfl rfl) ev_c) ?_
                    refine L_val (v := .bool (decide ((x36 : Int) = 6))) (y_pick_t (ev_tv rfl hq29) (ev_tv rfl rfl)) ?_
                    refine L_val (v := .bool (decide ((x36 : Int) = 6))) (y_move (ev_tv rfl rfl)) ?_
                    rcases (Decidable.em ((x36 : Int) = 6)) with hb30 | hb30
                    · replace H := H.1 hb30
                      have hq31 : Value.bool (decide ((x36 : Int) = 6)) = Value.bool true := congrArg Value.bool (decide_eq_true hb30)
                      refine G_val (dj := 86) rfl rfl hq31 (v := .pointer none) (y_move (ev_tv rfl rfl)) ?_
                      obtain ⟨x42, x43, hc32, H⟩ := H
                      refine G_val (dj := 86) rfl rfl hq31 (v := .agg #[.int .i64 x42, .string x43]) (y_loadAgg Tryd.underlying42 rfl Tryd.type42 rfl (ev_tv rfl rfl) hc32) ?_
                      refine G_val (dj := 86) rfl rfl hq31 (v := .int .i64 a_n3) (y_move (ev_tv rfl rfl)) ?_
                      refine G_call (dj := 86) rfl rfl hq31 (y_call Tryd.call15 (map_ev3 (ev_tv rfl rfl) (ev_tv rfl rfl) (ev_tv rfl rfl)) ev_f) (Calls.mono H ?_)
                      clear H
                      rintro _ w45 ⟨x44, rfl, H⟩
                      refine ⟨_, rfl, ?_⟩
                      refine G_val (dj := 86) rfl rfl hq31 (v := .bool (decide ((x44 : Int) = 6))) (y_ieq (ev_tv rfl rfl) ev_c) ?_
                      refine L_val (v := .bool (decide ((x44 : Int) = 6))) (y_pick_t (ev_tv rfl hq31) (ev_tv rfl rfl)) ?_
                      refine L_val (v := .bool (decide ((x44 : Int) = 6))) (y_move (ev_tv rfl rfl)) ?_
                      rcases (Decidable.em ((x44 : Int) = 6)) with hb33 | hb33
                      · replace H := H.1 hb33
                        have hq34 : Value.bool (decide ((x44 : Int) = 6)) = Value.bool true := congrArg Value.bool (decide_eq_true hb33)
                        refine G_val (dj := 93) rfl rfl hq34 (v := .pointer none) (y_move (ev_tv rfl rfl)) ?_
                        obtain ⟨x47, x48, hc35, H⟩ := H
                        refine G_val (dj := 93) rfl rfl hq34 (v := .agg #[.int .i64 x47, .string x48]) (y_loadAgg Tryd.underlying42 rfl Tryd.type42 rfl (ev_tv rfl rfl) hc35) ?_
                        refine G_call (dj := 93) rfl rfl hq34 (y_call Tryd.call17 (map_ev2 (ev_tv rfl rfl) (ev_tv rfl rfl)) ev_f) (Calls.mono H ?_)
                        clear H
                        rintro _ w50 ⟨x49, rfl, H⟩
                        refine ⟨_, rfl, ?_⟩
                        rcases Bool.eq_false_or_eq_true x49 with hb36 | hb36
                        · replace H := H.1 hb36
                          have hq37 : Value.bool (x49) = Value.bool true := congrArg Value.bool hb36
                          refine G_val (dj := 93) rfl rfl hq34 (v := .bool false) (y_not_t (ev_tv rfl hq37)) ?_
                          refine L_val (v := .bool false) (y_pick_t (ev_tv rfl hq34) (ev_tv rfl rfl)) ?_
                          refine L_val (v := .bool false) (y_move (ev_tv rfl rfl)) ?_
                          refine G_not (b' := false) (dj := 99) rfl rfl rfl rfl ?_
                          refine G_not (b' := false) (dj := 99) rfl rfl rfl rfl ?_
                          refine G_not (b' := false) (dj := 99) rfl rfl rfl rfl ?_
                          refine G_not (b' := false) (dj := 99) rfl rfl rfl rfl ?_
                          refine L_val (v := .bool false) (y_pick_f (ev_tv rfl rfl) ev_c) ?_
                          refine L_val (v := .bool false) (y_move (ev_tv rfl rfl)) ?_
                          refine G_not (b' := false) (dj := 105) rfl rfl rfl rfl ?_
                          refine G_not (b' := false) (dj := 105) rfl rfl rfl rfl ?_
                          refine G_not (b' := false) (dj := 105) rfl rfl rfl rfl ?_
                          refine G_not (b' := false) (dj := 105) rfl rfl rfl rfl ?_
                          refine L_val (v := .bool false) (y_pick_f (ev_tv rfl rfl) ev_c) ?_
                          refine L_val (v := .bool false) (y_assign (ev_tv rfl rfl)) ?_
                          refine l_nil ?_
                          refine then_norm ?_
                          refine hK11 _ _ ?_
                          clear hK11
                          refine c_ret ?_
                          exact body_1 rfl (ev_tv rfl rfl) H
                        · replace H := H.2 hb36
                          have hq37 : Value.bool (x49) = Value.bool false := congrArg Value.bool hb36
                          refine G_val (dj := 93) rfl rfl hq34 (v := .bool true) (y_not_f (ev_tv rfl hq37)) ?_
                          refine L_val (v := .bool true) (y_pick_t (ev_tv rfl hq34) (ev_tv rfl rfl)) ?_
                          refine L_val (v := .bool true) (y_move (ev_tv rfl rfl)) ?_
                          refine G_val (dj := 99) rfl rfl rfl (v := .pointer none) (y_move (ev_tv rfl rfl)) ?_
                          refine G_val (dj := 99) rfl rfl rfl (v := .int .i64 a_n3) (y_move (ev_tv rfl rfl)) ?_
                          refine G_call (dj := 99) rfl rfl rfl (y_call Tryd.call19 (map_ev2 (ev_tv rfl rfl) (ev_tv rfl rfl)) ev_f) (Calls.mono H ?_)
                          clear H
                          rintro _ w53 ⟨x52, rfl, H⟩
                          refine ⟨_, rfl, ?_⟩
                          refine G_val (dj := 99) rfl rfl rfl (v := .bool (decide ((x52 : Int) = 0))) (y_ieq (ev_tv rfl rfl) ev_c) ?_
                          refine L_val (v := .bool (decide ((x52 : Int) = 0))) (y_pick_t (ev_tv rfl rfl) (ev_tv rfl rfl)) ?_
                          refine L_val (v := .bool (decide ((x52 : Int) = 0))) (y_move (ev_tv rfl rfl)) ?_
                          rcases (Decidable.em ((x52 : Int) = 0)) with hb38 | hb38
                          · replace H := H.1 hb38
                            have hq39 : Value.bool (decide ((x52 : Int) = 0)) = Value.bool true := congrArg Value.bool (decide_eq_true hb38)
                            refine G_val (dj := 105) rfl rfl hq39 (v := .pointer none) (y_move (ev_tv rfl rfl)) ?_
                            refine G_call (dj := 105) rfl rfl hq39 (y_call Tryd.call22 (map_ev1 (ev_tv rfl rfl)) ev_f) (Calls.mono H ?_)
                            clear H
                            rintro _ w56 ⟨x55, x55l, x55c, rfl, H⟩
                            refine ⟨_, rfl, ?_⟩
                            refine G_val (dj := 105) rfl rfl hq39 (v := .int .i64 ((x55l : Nat) : Int)) (y_len Tryd.underlying51 rfl (map_ev1 (ev_tv rfl rfl))) ?_
                            refine G_val (dj := 105) rfl rfl hq39 (v := .bool (decide ((((x55l : Nat) : Int) : Int) = 0))) (y_ieq (ev_tv rfl rfl) ev_c) ?_
                            refine L_val (v := .bool (decide ((((x55l : Nat) : Int) : Int) = 0))) (y_pick_t (ev_tv rfl hq39) (ev_tv rfl rfl)) ?_
                            refine L_val (v := .bool (decide ((((x55l : Nat) : Int) : Int) = 0))) (y_assign (ev_tv rfl rfl)) ?_
                            refine l_nil ?_
                            refine then_norm ?_
                            refine hK11 _ _ ?_
                            clear hK11
                            refine c_ret ?_
                            exact body_1 rfl (ev_tv rfl rfl) H
                          · replace H := H.2 hb38
                            have hq39 : Value.bool (decide ((x52 : Int) = 0)) = Value.bool false := congrArg Value.bool (decide_eq_false hb38)
                            refine G_not (b' := false) (dj := 105) rfl rfl hq39 rfl ?_
                            refine G_not (b' := false) (dj := 105) rfl rfl hq39 rfl ?_
                            refine G_not (b' := false) (dj := 105) rfl rfl hq39 rfl ?_
                            refine G_not (b' := false) (dj := 105) rfl rfl hq39 rfl ?_
                            refine L_val (v := .bool false) (y_pick_f (ev_tv rfl hq39) ev_c) ?_
                            refine L_val (v := .bool false) (y_assign (ev_tv rfl rfl)) ?_
                            refine l_nil ?_
                            refine then_norm ?_
                            refine hK11 _ _ ?_
                            clear hK11
                            refine c_ret ?_
                            exact body_1 rfl (ev_tv rfl rfl) H
                      · replace H := H.2 hb33
                        have hq34 : Value.bool (decide ((x44 : Int) = 6)) = Value.bool false := congrArg Value.bool (decide_eq_false hb33)
                        refine G_not (b' := false) (dj := 93) rfl rfl hq34 rfl ?_
                        refine G_not (b' := false) (dj := 93) rfl rfl hq34 rfl ?_
                        refine G_not (b' := false) (dj := 93) rfl rfl hq34 rfl ?_
                        refine G_not (b' := false) (dj := 93) rfl rfl hq34 rfl ?_
                        refine L_val (v := .bool false) (y_pick_f (ev_tv rfl hq34) ev_c) ?_
                        refine L_val (v := .bool false) (y_move (ev_tv rfl rfl)) ?_
                        refine G_not (b' := false) (dj := 99) rfl rfl rfl rfl ?_
                        refine G_not (b' := false) (dj := 99) rfl rfl rfl rfl ?_
                        refine G_not (b' := false) (dj := 99) rfl rfl rfl rfl ?_
                        refine G_not (b' := false) (dj := 99) rfl rfl rfl rfl ?_
                        refine L_val (v := .bool false) (y_pick_f (ev_tv rfl rfl) ev_c) ?_
                        refine L_val (v := .bool false) (y_move (ev_tv rfl rfl)) ?_
                        refine G_not (b' := false) (dj := 105) rfl rfl rfl rfl ?_
                        refine G_not (b' := false) (dj := 105) rfl rfl rfl rfl ?_
                        refine G_not (b' := false) (dj := 105) rfl rfl rfl rfl ?_
                        refine G_not (b' := false) (dj := 105) rfl rfl rfl rfl ?_
                        refine L_val (v := .bool false) (y_pick_f (ev_tv rfl rfl) ev_c) ?_
                        refine L_val (v := .bool false) (y_assign (ev_tv rfl rfl)) ?_
                        refine l_nil ?_
                        refine then_norm ?_
                        refine hK11 _ _ ?_
                        clear hK11
                        refine c_ret ?_
                        exact body_1 rfl (ev_tv rfl rfl) H
                    · replace H := H.2 hb30
                      have hq31 : Value.bool (decide ((x36 : Int) = 6)) = Value.bool false := congrArg Value.bool (decide_eq_false hb30)
                      refine G_not (b' := false) (dj := 86) rfl rfl hq31 rfl ?_
                      refine G_not (b' := false) (dj := 86) rfl rfl hq31 rfl ?_
                      refine G_not (b' := false) (dj := 86) rfl rfl hq31 rfl ?_
                      refine G_not (b' := false) (dj := 86) rfl rfl hq31 rfl ?_
                      refine G_not (b' := false) (dj := 86) rfl rfl hq31 rfl ?_
                      refine L_val (v := .bool false) (y_pick_f (ev_tv rfl hq31) ev_c) ?_
                      refine L_val (v := .bool false) (y_move (ev_tv rfl rfl)) ?_
                      refine G_not (b' := false) (dj := 93) rfl rfl rfl rfl ?_
                      refine G_not (b' := false) (dj := 93) rfl rfl rfl rfl ?_
                      refine G_not (b' := false) (dj := 93) rfl rfl rfl rfl ?_
                      refine G_not (b' := false) (dj := 93) rfl rfl rfl rfl ?_
                      refine L_val (v := .bool false) (y_pick_f (ev_tv rfl rfl) ev_c) ?_
                      refine L_val (v := .bool false) (y_move (ev_tv rfl rfl)) ?_
                      refine G_not (b' := false) (dj := 99) rfl rfl rfl rfl ?_
                      refine G_not (b' := false) (dj := 99) rfl rfl rfl rfl ?_
                      refine G_not (b' := false) (dj := 99) rfl rfl rfl rfl ?_
                      refine G_not (b' := false) (dj := 99) rfl rfl rfl rfl ?_
                      refine L_val (v := .bool false) (y_pick_f (ev_tv rfl rfl) ev_c) ?_
                      refine L_val (v := .bool false) (y_move (ev_tv rfl rfl)) ?_
                      refine G_not (b' := false) (dj := 105) rfl rfl rfl rfl ?_
                      refine G_not (b' := false) (dj := 105) rfl rfl rfl rfl ?_
                      refine G_not (b' := false) (dj := 105) rfl rfl rfl rfl ?_
                      refine G_not (b' := false) (dj := 105) rfl rfl rfl rfl ?_
                      refine L_val (v := .bool false) (y_pick_f (ev_tv rfl rfl) ev_c) ?_
                      refine L_val (v := .bool false) (y_assign (ev_tv rfl rfl)) ?_
                      refine l_nil ?_
                      refine then_norm ?_
                      refine hK11 _ _ ?_
                      clear hK11
                      refine c_ret ?_
                      exact body_1 rfl (ev_tv rfl rfl) H
                  · replace H := H.2 hb28
                    have hq29 : Value.bool ((x35.toList == (⟨#[]⟩ : ByteArray).toList)) = Value.bool false := congrArg Value.bool hb28
                    refine G_not (b' := false) (dj := 82) rfl rfl hq29 rfl ?_
                    refine G_not (b' := false) (dj := 82) rfl rfl hq29 rfl ?_
                    refine L_val (v := .bool false) (y_pick_f (ev_tv rfl hq29) ev_c) ?_
                    refine L_val (v := .bool false) (y_move (ev_tv rfl rfl)) ?_
                    refine G_not (b' := false) (dj := 86) rfl rfl rfl rfl ?_
                    refine G_not (b' := false) (dj := 86) rfl rfl rfl rfl ?_
                    refine G_not (b' := false) (dj := 86) rfl rfl rfl rfl ?_
                    refine G_not (b' := false) (dj := 86) rfl rfl rfl rfl ?_
                    refine G_not (b' := false) (dj := 86) rfl rfl rfl rfl ?_
                    refine L_val (v := .bool false) (y_pick_f (ev_tv rfl rfl) ev_c) ?_
                    refine L_val (v := .bool false) (y_move (ev_tv rfl rfl)) ?_
                    refine G_not (b' := false) (dj := 93) rfl rfl rfl rfl ?_
                    refine G_not (b' := false) (dj := 93) rfl rfl rfl rfl ?_
                    refine G_not (b' := false) (dj := 93) rfl rfl rfl rfl ?_
                    refine G_not (b' := false) (dj := 93) rfl rfl rfl rfl ?_
                    refine L_val (v := .bool false) (y_pick_f (ev_tv rfl rfl) ev_c) ?_
                    refine L_val (v := .bool false) (y_move (ev_tv rfl rfl)) ?_
                    refine G_not (b' := false) (dj := 99) rfl rfl rfl rfl ?_
                    refine G_not (b' := false) (dj := 99) rfl rfl rfl rfl ?_
                    refine G_not (b' := false) (dj := 99) rfl rfl rfl rfl ?_
                    refine G_not (b' := false) (dj := 99) rfl rfl rfl rfl ?_
                    refine L_val (v := .bool false) (y_pick_f (ev_tv rfl rfl) ev_c) ?_
                    refine L_val (v := .bool false) (y_move (ev_tv rfl rfl)) ?_
                    refine G_not (b' := false) (dj := 105) rfl rfl rfl rfl ?_
                    refine G_not (b' := false) (dj := 105) rfl rfl rfl rfl ?_
                    refine G_not (b' := false) (dj := 105) rfl rfl rfl rfl ?_
                    refine G_not (b' := false) (dj := 105) rfl rfl rfl rfl ?_
                    refine L_val (v := .bool false) (y_pick_f (ev_tv rfl rfl) ev_c) ?_
                    refine L_val (v := .bool false) (y_assign (ev_tv rfl rfl)) ?_
                    refine l_nil ?_
                    refine then_norm ?_
                    refine hK11 _ _ ?_
                    clear hK11
                    refine c_ret ?_
                    exact body_1 rfl (ev_tv rfl rfl) H
                · replace H := H.2 hb26
                  have hq27 : Value.bool (decide ((x34 : Int) = 0)) = Value.bool false := congrArg Value.bool (decide_eq_false hb26)
                  refine G_not (b' := false) (dj := 78) rfl rfl hq27 rfl ?_
                  refine G_not (b' := false) (dj := 78) rfl rfl hq27 rfl ?_
                  refine L_val (v := .bool false) (y_pick_f (ev_tv rfl hq27) ev_c) ?_
                  refine L_val (v := .bool false) (y_move (ev_tv rfl rfl)) ?_
                  refine G_not (b' := false) (dj := 82) rfl rfl rfl rfl ?_
                  refine G_not (b' := false) (dj := 82) rfl rfl rfl rfl ?_
                  refine L_val (v := .bool false) (y_pick_f (ev_tv rfl rfl) ev_c) ?_
                  refine L_val (v := .bool false) (y_move (ev_tv rfl rfl)) ?_
                  refine G_not (b' := false) (dj := 86) rfl rfl rfl rfl ?_
                  refine G_not (b' := false) (dj := 86) rfl rfl rfl rfl ?_
                  refine G_not (b' := false) (dj := 86) rfl rfl rfl rfl ?_
                  refine G_not (b' := false) (dj := 86) rfl rfl rfl rfl ?_
                  refine G_not (b' := false) (dj := 86) rfl rfl rfl rfl ?_
                  refine L_val (v := .bool false) (y_pick_f (ev_tv rfl rfl) ev_c) ?_
                  refine L_val (v := .bool false) (y_move (ev_tv rfl rfl)) ?_
                  refine G_not (b' := false) (dj := 93) rfl rfl rfl rfl ?_
                  refine G_not (b' := false) (dj := 93) rfl rfl rfl rfl ?_
                  refine G_not (b' := false) (dj := 93) rfl rfl rfl rfl ?_
                  refine G_not (b' := false) (dj := 93) rfl rfl rfl rfl ?_
                  refine L_val (v := .bool false) (y_pick_f (ev_tv rfl rfl) ev_c) ?_
                  refine L_val (v := .bool false) (y_move (ev_tv rfl rfl)) ?_
                  refine G_not (b' := false) (dj := 99) rfl rfl rfl rfl ?_
                  refine G_not (b' := false) (dj := 99) rfl rfl rfl rfl ?_
                  refine G_not (b' := false) (dj := 99) rfl rfl rfl rfl ?_
                  refine G_not (b' := false) (dj := 99) rfl rfl rfl rfl ?_
                  refine L_val (v := .bool false) (y_pick_f (ev_tv rfl rfl) ev_c) ?_
                  refine L_val (v := .bool false) (y_move (ev_tv rfl rfl)) ?_
                  refine G_not (b' := false) (dj := 105) rfl rfl rfl rfl ?_
                  refine G_not (b' := false) (dj := 105) rfl rfl rfl rfl ?_
                  refine G_not (b' := false) (dj := 105) rfl rfl rfl rfl ?_
                  refine G_not (b' := false) (dj := 105) rfl rfl rfl rfl ?_
                  refine L_val (v := .bool false) (y_pick_f (ev_tv rfl rfl) ev_c) ?_
                  refine L_val (v := .bool false) (y_assign (ev_tv rfl rfl)) ?_
                  refine l_nil ?_
                  refine then_norm ?_
                  refine hK11 _ _ ?_
                  clear hK11
                  refine c_ret ?_
                  exact body_1 rfl (ev_tv rfl rfl) H
              · replace H := H.2 hb24
                have hq25 : Value.bool (decide ((x26 : Int) = 6)) = Value.bool false := congrArg Value.bool (decide_eq_false hb24)
                refine G_not (b' := false) (dj := 74) rfl rfl hq25 rfl ?_
                refine G_not (b' := false) (dj := 74) rfl rfl hq25 rfl ?_
                refine L_val (v := .bool false) (y_pick_f (ev_tv rfl hq25) ev_c) ?_
                refine L_val (v := .bool false) (y_move (ev_tv rfl rfl)) ?_
                refine G_not (b' := false) (dj := 78) rfl rfl rfl rfl ?_
                refine G_not (b' := false) (dj := 78) rfl rfl rfl rfl ?_
                refine L_val (v := .bool false) (y_pick_f (ev_tv rfl rfl) ev_c) ?_
                refine L_val (v := .bool false) (y_move (ev_tv rfl rfl)) ?_
                refine G_not (b' := false) (dj := 82) rfl rfl rfl rfl ?_
                refine G_not (b' := false) (dj := 82) rfl rfl rfl rfl ?_
                refine L_val (v := .bool false) (y_pick_f (ev_tv rfl rfl) ev_c) ?_
                refine L_val (v := .bool false) (y_move (ev_tv rfl rfl)) ?_
                refine G_not (b' := false) (dj := 86) rfl rfl rfl rfl ?_
                refine G_not (b' := false) (dj := 86) rfl rfl rfl rfl ?_
                refine G_not (b' := false) (dj := 86) rfl rfl rfl rfl ?_
                refine G_not (b' := false) (dj := 86) rfl rfl rfl rfl ?_
                refine G_not (b' := false) (dj := 86) rfl rfl rfl rfl ?_
                refine L_val (v := .bool false) (y_pick_f (ev_tv rfl rfl) ev_c) ?_
                refine L_val (v := .bool false) (y_move (ev_tv rfl rfl)) ?_
                refine G_not (b' := false) (dj := 93) rfl rfl rfl rfl ?_
                refine G_not (b' := false) (dj := 93) rfl rfl rfl rfl ?_
                refine G_not (b' := false) (dj := 93) rfl rfl rfl rfl ?_
                refine G_not (b' := false) (dj := 93) rfl rfl rfl rfl ?_
                refine L_val (v := .bool false) (y_pick_f (ev_tv rfl rfl) ev_c) ?_
                refine L_val (v := .bool false) (y_move (ev_tv rfl rfl)) ?_
                refine G_not (b' := false) (dj := 99) rfl rfl rfl rfl ?_
                refine G_not (b' := false) (dj := 99) rfl rfl rfl rfl ?_
                refine G_not (b' := false) (dj := 99) rfl rfl rfl rfl ?_
                refine G_not (b' := false) (dj := 99) rfl rfl rfl rfl ?_
                refine L_val (v := .bool false) (y_pick_f (ev_tv rfl rfl) ev_c) ?_
                refine L_val (v := .bool false) (y_move (ev_tv rfl rfl)) ?_
                refine G_not (b' := false) (dj := 105) rfl rfl rfl rfl ?_
                refine G_not (b' := false) (dj := 105) rfl rfl rfl rfl ?_
                refine G_not (b' := false) (dj := 105) rfl rfl rfl rfl ?_
                refine G_not (b' := false) (dj := 105) rfl rfl rfl rfl ?_
                refine L_val (v := .bool false) (y_pick_f (ev_tv rfl rfl) ev_c) ?_
                refine L_val (v := .bool false) (y_assign (ev_tv rfl rfl)) ?_
                refine l_nil ?_
                refine then_norm ?_
                refine hK11 _ _ ?_
                clear hK11
                refine c_ret ?_
                exact body_1 rfl (ev_tv rfl rfl) H
            · replace H := H.2 hb22
              have hq23 : Value.bool (decide ((x25 : Int) = 0)) = Value.bool false := congrArg Value.bool (decide_eq_false hb22)
              refine G_not (b' := false) (dj := 70) rfl rfl hq23 rfl ?_
              refine G_not (b' := false) (dj := 70) rfl rfl hq23 rfl ?_
              refine L_val (v := .bool false) (y_pick_f (ev_tv rfl hq23) ev_c) ?_
              refine L_val (v := .bool false) (y_move (ev_tv rfl rfl)) ?_
              refine G_not (b' := false) (dj := 74) rfl rfl rfl rfl ?_
              refine G_not (b' := false) (dj := 74) rfl rfl rfl rfl ?_
              refine L_val (v := .bool false) (y_pick_f (ev_tv rfl rfl) ev_c) ?_
              refine L_val (v := .bool false) (y_move (ev_tv rfl rfl)) ?_
              refine G_not (b' := false) (dj := 78) rfl rfl rfl rfl ?_
              refine G_not (b' := false) (dj := 78) rfl rfl rfl rfl ?_
              refine L_val (v := .bool false) (y_pick_f (ev_tv rfl rfl) ev_c) ?_
              refine L_val (v := .bool false) (y_move (ev_tv rfl rfl)) ?_
              refine G_not (b' := false) (dj := 82) rfl rfl rfl rfl ?_
              refine G_not (b' := false) (dj := 82) rfl rfl rfl rfl ?_
              refine L_val (v := .bool false) (y_pick_f (ev_tv rfl rfl) ev_c) ?_
              refine L_val (v := .bool false) (y_move (ev_tv rfl rfl)) ?_
              refine G_not (b' := false) (dj := 86) rfl rfl rfl rfl ?_
              refine G_not (b' := false) (dj := 86) rfl rfl rfl rfl ?_
              refine G_not (b' := false) (dj := 86) rfl rfl rfl rfl ?_
              refine G_not (b' := false) (dj := 86) rfl rfl rfl rfl ?_
              refine G_not (b' := false) (dj := 86) rfl rfl rfl rfl ?_
              refine L_val (v := .bool false) (y_pick_f (ev_tv rfl rfl) ev_c) ?_
              refine L_val (v := .bool false) (y_move (ev_tv rfl rfl)) ?_
              refine G_not (b' := false) (dj := 93) rfl rfl rfl rfl ?_
              refine G_not (b' := false) (dj := 93) rfl rfl rfl rfl ?_
              refine G_not (b' := false) (dj := 93) rfl rfl rfl rfl ?_
              refine G_not (b' := false) (dj := 93) rfl rfl rfl rfl ?_
              refine L_val (v := .bool false) (y_pick_f (ev_tv rfl rfl) ev_c) ?_
              refine L_val (v := .bool false) (y_move (ev_tv rfl rfl)) ?_
              refine G_not (b' := false) (dj := 99) rfl rfl rfl rfl ?_
              refine G_not (b' := false) (dj := 99) rfl rfl rfl rfl ?_
              refine G_not (b' := false) (dj := 99) rfl rfl rfl rfl ?_
              refine G_not (b' := false) (dj := 99) rfl rfl rfl rfl ?_
              refine L_val (v := .bool false) (y_pick_f (ev_tv rfl rfl) ev_c) ?_
              refine L_val (v := .bool false) (y_move (ev_tv rfl rfl)) ?_
              refine G_not (b' := false) (dj := 105) rfl rfl rfl rfl ?_
              refine G_not (b' := false) (dj := 105) rfl rfl rfl rfl ?_
              refine G_not (b' := false) (dj := 105) rfl rfl rfl rfl ?_
              refine G_not (b' := false) (dj := 105) rfl rfl rfl rfl ?_
              refine L_val (v := .bool false) (y_pick_f (ev_tv rfl rfl) ev_c) ?_
              refine L_val (v := .bool false) (y_assign (ev_tv rfl rfl)) ?_
              refine l_nil ?_
              refine then_norm ?_
              refine hK11 _ _ ?_
              clear hK11
              refine c_ret ?_
              exact body_1 rfl (ev_tv rfl rfl) H
        · replace H := H.2 hb18
          have hq19 : Value.bool (decide ((x16 : Int) = 0)) = Value.bool false := congrArg Value.bool (decide_eq_false hb18)
          refine G_not (b' := false) (dj := 62) rfl rfl hq19 rfl ?_
          refine G_not (b' := false) (dj := 62) rfl rfl hq19 rfl ?_
          refine L_val (v := .bool false) (y_pick_f (ev_tv rfl hq19) ev_c) ?_
          refine L_val (v := .bool false) (y_move (ev_tv rfl rfl)) ?_
          refine G_not (b' := false) (dj := 66) rfl rfl rfl rfl ?_
          refine G_not (b' := false) (dj := 66) rfl rfl rfl rfl ?_
          refine L_val (v := .bool false) (y_pick_f (ev_tv rfl rfl) ev_c) ?_
          refine L_val (v := .bool false) (y_move (ev_tv rfl rfl)) ?_
          refine G_not (b' := false) (dj := 70) rfl rfl rfl rfl ?_
          refine G_not (b' := false) (dj := 70) rfl rfl rfl rfl ?_
          refine L_val (v := .bool false) (y_pick_f (ev_tv rfl rfl) ev_c) ?_
          refine L_val (v := .bool false) (y_move (ev_tv rfl rfl)) ?_
          refine G_not (b' := false) (dj := 74) rfl rfl rfl rfl ?_
          refine G_not (b' := false) (dj := 74) rfl rfl rfl rfl ?_
          refine L_val (v := .bool false) (y_pick_f (ev_tv rfl rfl) ev_c) ?_
          refine L_val (v := .bool false) (y_move (ev_tv rfl rfl)) ?_
          refine G_not (b' := false) (dj := 78) rfl rfl rfl rfl ?_
          refine G_not (b' := false) (dj := 78) rfl rfl rfl rfl ?_
          refine L_val (v := .bool false) (y_pick_f (ev_tv rfl rfl) ev_c) ?_
          refine L_val (v := .bool false) (y_move (ev_tv rfl rfl)) ?_
          refine G_not (b' := false) (dj := 82) rfl rfl rfl rfl ?_
          refine G_not (b' := false) (dj := 82) rfl rfl rfl rfl ?_
          refine L_val (v := .bool false) (y_pick_f (ev_tv rfl rfl) ev_c) ?_
          refine L_val (v := .bool false) (y_move (ev_tv rfl rfl)) ?_
          refine G_not (b' := false) (dj := 86) rfl rfl rfl rfl ?_
          refine G_not (b' := false) (dj := 86) rfl rfl rfl rfl ?_
          refine G_not (b' := false) (dj := 86) rfl rfl rfl rfl ?_
          refine G_not (b' := false) (dj := 86) rfl rfl rfl rfl ?_
          refine G_not (b' := false) (dj := 86) rfl rfl rfl rfl ?_
          refine L_val (v := .bool false) (y_pick_f (ev_tv rfl rfl) ev_c) ?_
          refine L_val (v := .bool false) (y_move (ev_tv rfl rfl)) ?_
          refine G_not (b' := false) (dj := 93) rfl rfl rfl rfl ?_
          refine G_not (b' := false) (dj := 93) rfl rfl rfl rfl ?_
          refine G_not (b' := false) (dj := 93) rfl rfl rfl rfl ?_
          refine G_not (b' := false) (dj := 93) rfl rfl rfl rfl ?_
          refine L_val (v := .bool false) (y_pick_f (ev_tv rfl rfl) ev_c) ?_
          refine L_val (v := .bool false) (y_move (ev_tv rfl rfl)) ?_
          refine G_not (b' := false) (dj := 99) rfl rfl rfl rfl ?_
          refine G_not (b' := false) (dj := 99) rfl rfl rfl rfl ?_
          refine G_not (b' := false) (dj := 99) rfl rfl rfl rfl ?_
          refine G_not (b' := false) (dj := 99) rfl rfl rfl rfl ?_
          refine L_val (v := .bool false) (y_pick_f (ev_tv rfl rfl) ev_c) ?_
          refine L_val (v := .bool false) (y_move (ev_tv rfl rfl)) ?_
          refine G_not (b' := false) (dj := 105) rfl rfl rfl rfl ?_
          refine G_not (b' := false) (dj := 105) rfl rfl rfl rfl ?_
          refine G_not (b' := false) (dj := 105) rfl rfl rfl rfl ?_
          refine G_not (b' := false) (dj := 105) rfl rfl rfl rfl ?_
          refine L_val (v := .bool false) (y_pick_f (ev_tv rfl rfl) ev_c) ?_
          refine L_val (v := .bool false) (y_assign (ev_tv rfl rfl)) ?_
          refine l_nil ?_
          refine then_norm ?_
          refine hK11 _ _ ?_
          clear hK11
          refine c_ret ?_
          exact body_1 rfl (ev_tv rfl rfl) H
      · replace H := H.2 hb16
        have hq17 : Value.bool (decide ((x11 : Int) = 1)) = Value.bool false := congrArg Value.bool (decide_eq_false hb16)
        refine G_not (b' := false) (dj := 58) rfl rfl hq17 rfl ?_
        refine G_not (b' := false) (dj := 58) rfl rfl hq17 rfl ?_
        refine L_val (v := .bool false) (y_pick_f (ev_tv rfl hq17) ev_c) ?_
        refine L_val (v := .bool false) (y_move (ev_tv rfl rfl)) ?_
        refine G_not (b' := false) (dj := 62) rfl rfl rfl rfl ?_
        refine G_not (b' := false) (dj := 62) rfl rfl rfl rfl ?_
        refine L_val (v := .bool false) (y_pick_f (ev_tv rfl rfl) ev_c) ?_
        refine L_val (v := .bool false) (y_move (ev_tv rfl rfl)) ?_
        refine G_not (b' := false) (dj := 66) rfl rfl rfl rfl ?_
        refine G_not (b' := false) (dj := 66) rfl rfl rfl rfl ?_
        refine L_val (v := .bool false) (y_pick_f (ev_tv rfl rfl) ev_c) ?_
        refine L_val (v := .bool false) (y_move (ev_tv rfl rfl)) ?_
        refine G_not (b' := false) (dj := 70) rfl rfl rfl rfl ?_
        refine G_not (b' := false) (dj := 70) rfl rfl rfl rfl ?_
        refine L_val (v := .bool false) (y_pick_f (ev_tv rfl rfl) ev_c) ?_
        refine L_val (v := .bool false) (y_move (ev_tv rfl rfl)) ?_
        refine G_not (b' := false) (dj := 74) rfl rfl rfl rfl ?_
        refine G_not (b' := false) (dj := 74) rfl rfl rfl rfl ?_
        refine L_val (v := .bool false) (y_pick_f (ev_tv rfl rfl) ev_c) ?_
        refine L_val (v := .bool false) (y_move (ev_tv rfl rfl)) ?_
        refine G_not (b' := false) (dj := 78) rfl rfl rfl rfl ?_
        refine G_not (b' := false) (dj := 78) rfl rfl rfl rfl ?_
        refine L_val (v := .bool false) (y_pick_f (ev_tv rfl rfl) ev_c) ?_
        refine L_val (v := .bool false) (y_move (ev_tv rfl rfl)) ?_
        refine G_not (b' := false) (dj := 82) rfl rfl rfl rfl ?_
        refine G_not (b' := false) (dj := 82) rfl rfl rfl rfl ?_
        refine L_val (v := .bool false) (y_pick_f (ev_tv rfl rfl) ev_c) ?_
        refine L_val (v := .bool false) (y_move (ev_tv rfl rfl)) ?_
        refine G_not (b' := false) (dj := 86) rfl rfl rfl rfl ?_
        refine G_not (b' := false) (dj := 86) rfl rfl rfl rfl ?_
        refine G_not (b' := false) (dj := 86) rfl rfl rfl rfl ?_
        refine G_not (b' := false) (dj := 86) rfl rfl rfl rfl ?_
        refine G_not (b' := false) (dj := 86) rfl rfl rfl rfl ?_
        refine L_val (v := .bool false) (y_pick_f (ev_tv rfl rfl) ev_c) ?_
        refine L_val (v := .bool false) (y_move (ev_tv rfl rfl)) ?_
        refine G_not (b' := false) (dj := 93) rfl rfl rfl rfl ?_
        refine G_not (b' := false) (dj := 93) rfl rfl rfl rfl ?_
        refine G_not (b' := false) (dj := 93) rfl rfl rfl rfl ?_
        refine G_not (b' := false) (dj := 93) rfl rfl rfl rfl ?_
        refine L_val (v := .bool false) (y_pick_f (ev_tv rfl rfl) ev_c) ?_
        refine L_val (v := .bool false) (y_move (ev_tv rfl rfl)) ?_
        refine G_not (b' := false) (dj := 99) rfl rfl rfl rfl ?_
        refine G_not (b' := false) (dj := 99) rfl rfl rfl rfl ?_
        refine G_not (b' := false) (dj := 99) rfl rfl rfl rfl ?_
        refine G_not (b' := false) (dj := 99) rfl rfl rfl rfl ?_
        refine L_val (v := .bool false) (y_pick_f (ev_tv rfl rfl) ev_c) ?_
        refine L_val (v := .bool false) (y_move (ev_tv rfl rfl)) ?_
        refine G_not (b' := false) (dj := 105) rfl rfl rfl rfl ?_
        refine G_not (b' := false) (dj := 105) rfl rfl rfl rfl ?_
        refine G_not (b' := false) (dj := 105) rfl rfl rfl rfl ?_
        refine G_not (b' := false) (dj := 105) rfl rfl rfl rfl ?_
        refine L_val (v := .bool false) (y_pick_f (ev_tv rfl rfl) ev_c) ?_
        refine L_val (v := .bool false) (y_assign (ev_tv rfl rfl)) ?_
        refine l_nil ?_
        refine then_norm ?_
        refine hK11 _ _ ?_
        clear hK11
        refine c_ret ?_
        exact body_1 rfl (ev_tv rfl rfl) H
    · replace H := H.2 hb14
      have hq15 : Value.bool (x10.isNone) = Value.bool false := congrArg Value.bool (isn_f hb14)
      refine G_not (b' := false) (dj := 54) rfl rfl hq15 rfl ?_
      refine G_not (b' := false) (dj := 54) rfl rfl hq15 rfl ?_
      refine L_val (v := .bool false) (y_pick_f (ev_tv rfl hq15) ev_c) ?_
      refine L_val (v := .bool false) (y_move (ev_tv rfl rfl)) ?_
      refine G_not (b' := false) (dj := 58) rfl rfl rfl rfl ?_
      refine G_not (b' := false) (dj := 58) rfl rfl rfl rfl ?_
      refine L_val (v := .bool false) (y_pick_f (ev_tv rfl rfl) ev_c) ?_
      refine L_val (v := .bool false) (y_move (ev_tv rfl rfl)) ?_
      refine G_not (b' := false) (dj := 62) rfl rfl rfl rfl ?_
      refine G_not (b' := false) (dj := 62) rfl rfl rfl rfl ?_
      refine L_val (v := .bool false) (y_pick_f (ev_tv rfl rfl) ev_c) ?_
      refine L_val (v := .bool false) (y_move (ev_tv rfl rfl)) ?_
      refine G_not (b' := false) (dj := 66) rfl rfl rfl rfl ?_
      refine G_not (b' := false) (dj := 66) rfl rfl rfl rfl ?_
      refine L_val (v := .bool false) (y_pick_f (ev_tv rfl rfl) ev_c) ?_
      refine L_val (v := .bool false) (y_move (ev_tv rfl rfl)) ?_
      refine G_not (b' := false) (dj := 70) rfl rfl rfl rfl ?_
      refine G_not (b' := false) (dj := 70) rfl rfl rfl rfl ?_
      refine L_val (v := .bool false) (y_pick_f (ev_tv rfl rfl) ev_c) ?_
      refine L_val (v := .bool false) (y_move (ev_tv rfl rfl)) ?_
      refine G_not (b' := false) (dj := 74) rfl rfl rfl rfl ?_
      refine G_not (b' := false) (dj := 74) rfl rfl rfl rfl ?_
      refine L_val (v := .bool false) (y_pick_f (ev_tv rfl rfl) ev_c) ?_
      refine L_val (v := .bool false) (y_move (ev_tv rfl rfl)) ?_
      refine G_not (b' := false) (dj := 78) rfl rfl rfl rfl ?_
      refine G_not (b' := false) (dj := 78) rfl rfl rfl rfl ?_
      refine L_val (v := .bool false) (y_pick_f (ev_tv rfl rfl) ev_c) ?_
      refine L_val (v := .bool false) (y_move (ev_tv rfl rfl)) ?_
      refine G_not (b' := false) (dj := 82) rfl rfl rfl rfl ?_
      refine G_not (b' := false) (dj := 82) rfl rfl rfl rfl ?_
      refine L_val (v := .bool false) (y_pick_f (ev_tv rfl rfl) ev_c) ?_
      refine L_val (v := .bool false) (y_move (ev_tv rfl rfl)) ?_
      refine G_not (b' := false) (dj := 86) rfl rfl rfl rfl ?_
      refine G_not (b' := false) (dj := 86) rfl rfl rfl rfl ?_
      refine G_not (b' := false) (dj := 86) rfl rfl rfl rfl ?_
      refine G_not (b' := false) (dj := 86) rfl rfl rfl rfl ?_
      refine G_not (b' := false) (dj := 86) rfl rfl rfl rfl ?_
      refine L_val (v := .bool false) (y_pick_f (ev_tv rfl rfl) ev_c) ?_
      refine L_val (v := .bool false) (y_move (ev_tv rfl rfl)) ?_
      refine G_not (b' := false) (dj := 93) rfl rfl rfl rfl ?_
      refine G_not (b' := false) (dj := 93) rfl rfl rfl rfl ?_
      refine G_not (b' := false) (dj := 93) rfl rfl rfl rfl ?_
      refine G_not (b' := false) (dj := 93) rfl rfl rfl rfl ?_
      refine L_val (v := .bool false) (y_pick_f (ev_tv rfl rfl) ev_c) ?_
      refine L_val (v := .bool false) (y_move (ev_tv rfl rfl)) ?_
      refine G_not (b' := false) (dj := 99) rfl rfl rfl rfl ?_
      refine G_not (b' := false) (dj := 99) rfl rfl rfl rfl ?_
      refine G_not (b' := false) (dj := 99) rfl rfl rfl rfl ?_
      refine G_not (b' := false) (dj := 99) rfl rfl rfl rfl ?_
      refine L_val (v := .bool false) (y_pick_f (ev_tv rfl rfl) ev_c) ?_
      refine L_val (v := .bool false) (y_move (ev_tv rfl rfl)) ?_
      refine G_not (b' := false) (dj := 105) rfl rfl rfl rfl ?_
      refine G_not (b' := false) (dj := 105) rfl rfl rfl rfl ?_
      refine G_not (b' := false) (dj := 105) rfl rfl rfl rfl ?_
      refine G_not (b' := false) (dj := 105) rfl rfl rfl rfl ?_
      refine L_val (v := .bool false) (y_pick_f (ev_tv rfl rfl) ev_c) ?_
      refine L_val (v := .bool false) (y_assign (ev_tv rfl rfl)) ?_
      refine l_nil ?_
      refine then_norm ?_
      refine hK11 _ _ ?_
      clear hK11
      refine c_ret ?_
      exact body_1 rfl (ev_tv rfl rfl) H
  · replace H := H.2 hb12
    have hq13 : Value.bool (x39) = Value.bool false := congrArg Value.bool hb12
    refine G_not (b' := false) (dj := 50) rfl rfl hq13 rfl ?_
    refine G_not (b' := false) (dj := 50) rfl rfl hq13 rfl ?_
    refine L_val (v := .bool false) (y_pick_f (ev_tv rfl hq13) ev_c) ?_
    refine L_val (v := .bool false) (y_move (ev_tv rfl rfl)) ?_
    refine G_not (b' := false) (dj := 54) rfl rfl rfl rfl ?_
    refine G_not (b' := false) (dj := 54) rfl rfl rfl rfl ?_
    refine L_val (v := .bool false) (y_pick_f (ev_tv rfl rfl) ev_c) ?_
    refine L_val (v := .bool false) (y_move (ev_tv rfl rfl)) ?_
    refine G_not (b' := false) (dj := 58) rfl rfl rfl rfl ?_
    refine G_not (b' := false) (dj := 58) rfl rfl rfl rfl ?_
    refine L_val (v := .bool false) (y_pick_f (ev_tv rfl rfl) ev_c) ?_
    refine L_val (v := .bool false) (y_move (ev_tv rfl rfl)) ?_
    refine G_not (b' := false) (dj := 62) rfl rfl rfl rfl ?_
    refine G_not (b' := false) (dj := 62) rfl rfl rfl rfl ?_
    refine L_val (v := .bool false) (y_pick_f (ev_tv rfl rfl) ev_c) ?_
    refine L_val (v := .bool false) (y_move (ev_tv rfl rfl)) ?_
    refine G_not (b' := false) (dj := 66) rfl rfl rfl rfl ?_
    refine G_not (b' := false) (dj := 66) rfl rfl rfl rfl ?_
    refine L_val (v := .bool false) (y_pick_f (ev_tv rfl rfl) ev_c) ?_
    refine L_val (v := .bool false) (y_move (ev_tv rfl rfl)) ?_
    refine G_not (b' := false) (dj := 70) rfl rfl rfl rfl ?_
    refine G_not (b' := false) (dj := 70) rfl rfl rfl rfl ?_
    refine L_val (v := .bool false) (y_pick_f (ev_tv rfl rfl) ev_c) ?_
    refine L_val (v := .bool false) (y_move (ev_tv rfl rfl)) ?_
    refine G_not (b' := false) (dj := 74) rfl rfl rfl rfl ?_
    refine G_not (b' := false) (dj := 74) rfl rfl rfl rfl ?_
    refine L_val (v := .bool false) (y_pick_f (ev_tv rfl rfl) ev_c) ?_
    refine L_val (v := .bool false) (y_move (ev_tv rfl rfl)) ?_
    refine G_not (b' := false) (dj := 78) rfl rfl rfl rfl ?_
    refine G_not (b' := false) (dj := 78) rfl rfl rfl rfl ?_
    refine L_val (v := .bool false) (y_pick_f (ev_tv rfl rfl) ev_c) ?_
    refine L_val (v := .bool false) (y_move (ev_tv rfl rfl)) ?_
    refine G_not (b' := false) (dj := 82) rfl rfl rfl rfl ?_
    refine G_not (b' := false) (dj := 82) rfl rfl rfl rfl ?_
    refine L_val (v := .bool false) (y_pick_f (ev_tv rfl rfl) ev_c) ?_
    refine L_val (v := .bool false) (y_move (ev_tv rfl rfl)) ?_
    refine G_not (b' := false) (dj := 86) rfl rfl rfl rfl ?_
    refine G_not (b' := false) (dj := 86) rfl rfl rfl rfl ?_
    refine G_not (b' := false) (dj := 86) rfl rfl rfl rfl ?_
    refine G_not (b' := false) (dj := 86) rfl rfl rfl rfl ?_
    refine G_not (b' := false) (dj := 86) rfl rfl rfl rfl ?_
    refine L_val (v := .bool false) (y_pick_f (ev_tv rfl rfl) ev_c) ?_
    refine L_val (v := .bool false) (y_move (ev_tv rfl rfl)) ?_
    refine G_not (b' := false) (dj := 93) rfl rfl rfl rfl ?_
    refine G_not (b' := false) (dj := 93) rfl rfl rfl rfl ?_
    refine G_not (b' := false) (dj := 93) rfl rfl rfl rfl ?_
    refine G_not (b' := false) (dj := 93) rfl rfl rfl rfl ?_
    refine L_val (v := .bool false) (y_pick_f (ev_tv rfl rfl) ev_c) ?_
    refine L_val (v := .bool false) (y_move (ev_tv rfl rfl)) ?_
    refine G_not (b' := false) (dj := 99) rfl rfl rfl rfl ?_
    refine G_not (b' := false) (dj := 99) rfl rfl rfl rfl ?_
    refine G_not (b' := false) (dj := 99) rfl rfl rfl rfl ?_
    refine G_not (b' := false) (dj := 99) rfl rfl rfl rfl ?_
    refine L_val (v := .bool false) (y_pick_f (ev_tv rfl rfl) ev_c) ?_
    refine L_val (v := .bool false) (y_move (ev_tv rfl rfl)) ?_
    refine G_not (b' := false) (dj := 105) rfl rfl rfl rfl ?_
    refine G_not (b' := false) (dj := 105) rfl rfl rfl rfl ?_
    refine G_not (b' := false) (dj := 105) rfl rfl rfl rfl ?_
    refine G_not (b' := false) (dj := 105) rfl rfl rfl rfl ?_
    refine L_val (v := .bool false) (y_pick_f (ev_tv rfl rfl) ev_c) ?_
    refine L_val (v := .bool false) (y_assign (ev_tv rfl rfl)) ?_
    refine l_nil ?_
    refine then_norm ?_
    refine hK11 _ _ ?_
    clear hK11
    refine c_ret ?_
    exact body_1 rfl (ev_tv rfl rfl) H

/-- parapet/namec.Split -/
def Vc7 (a_path1 : ByteArray) (w : World) (R : Ending → World → Prop) : Prop :=
  ((((((a_path1.size : Nat) : Int) : Int) < 1) → R (.returned (.tuple #[.slice none 0 0, .int .i64 190])) w) ∧ ((¬ ((((a_path1.size : Nat) : Int) : Int) < 1)) → ((((64 : Int) < ((a_path1.size : Nat) : Int)) → R (.returned (.tuple #[.slice none 0 0, .int .i64 190])) w) ∧ ((¬ ((64 : Int) < ((a_path1.size : Nat) : Int))) → ((0 : Int) ≤ 0 ∧ 0 < ((a_path1.size : Nat) : Int) ∧ ∀ r2 : Int, r2 = strAt a_path1 (0 : Int).toNat → (((¬ ((r2 : Int) = 47)) → R (.returned (.tuple #[.slice none 0 0, .int .i64 190])) w) ∧ (((r2 : Int) = 47) → (Calls Tryd.prog 32 #[.string a_path1, .int .u8 0] w fun e w4 => ∃ x3 : Int, e = .returned (.int .i64 x3) ∧ ((((0 : Int) ≤ x3) → R (.returned (.tuple #[.slice none 0 0, .int .i64 190])) w4) ∧ ((¬ ((0 : Int) ≤ x3)) → (∃ J20 : Option Addr → Nat → Nat → World → Prop, (∀ (v6 : Option Addr) (v6l : Nat) (v6c : Nat) (w7 : World), J20 v6 v6l v6c w7 → ((((32 : Int) < ((v6l : Nat) : Int)) → R (.returned (.tuple #[.slice none 0 0, .int .i64 190])) w7) ∧ ((¬ ((32 : Int) < ((v6l : Nat) : Int))) → R (.returned (.tuple #[.slice v6 v6l v6c, .int .i64 0])) w7))) ∧ (Calls Tryd.prog 33 #[.string a_path1, .string (⟨#[47]⟩ : ByteArray)] w4 fun e w9 => ∃ x8 : Option Addr, ∃ x8l : Nat, ∃ x8c : Nat, e = .returned (.slice x8 x8l x8c) ∧ (∃ I34 : Nat → Option Addr → Nat → Nat → Int → World → Prop, (∃ m, I34 m none 0 0 0 w9) ∧ ∀ (m13 : Nat) (v11 : Option Addr) (v11l : Nat) (v11c : Nat) (v12 : Int) (w14 : World), I34 m13 v11 v11l v11c v12 w14 → ((((v12 : Int) < ((x8l : Nat) : Int)) → (∃ (b15 o16 : Nat), x8 = some ⟨b15, o16, none⟩ ∧ ((0 : Int) ≤ v12 ∧ v12 < ((x8l : Nat) : Int) ∧ (∃ x17 : ByteArray, World.cell? w14 ⟨b15, o16 + (v12 : Int).toNat, none⟩ = some (.string x17) ∧ ((((14 : Int) < ((x17.size : Nat) : Int)) → R (.returned (.tuple #[.slice none 0 0, .int .i64 190])) w14) ∧ ((¬ ((14 : Int) < ((x17.size : Nat) : Int))) → ((((!(x17.toList == (⟨#[]⟩ : ByteArray).toList)) = true) → (∀ (b18 : Nat) (w19 : World), b18 = World.heapSize w14 → w19 = World.alloc w14 (.cells #[.string x17] 9) → (∃ x21 : Option Addr, ∃ x21l : Nat, ∃ x21c : Nat, ∃ w20 : World, (Builtin.append_ #[22, 22] 22 #[.slice v11 v11l v11c, .slice (some ⟨b18, 0, none⟩) 1 1]).run Tryd.prog w19 = .ok (.slice x21 x21l x21c) w20 ∧ (∀ r22 : Int, r22 = IntKind.wrap .i64 (v12 + 1) → (∃ m23, m23 < m13 ∧ I34 m23 x21 x21l x21c r22 w20))))) ∧ (((!(x17.toList == (⟨#[]⟩ : ByteArray).toList)) = false) → (∀ r24 : Int, r24 = IntKind.wrap .i64 (v12 + 1) → (∃ m25, m25 < m13 ∧ I34 m25 v11 v11l v11c r24 w14)))))))))) ∧ ((¬ ((v12 : Int) < ((x8l : Nat) : Int))) → J20 v11 v11l v11c w14)))))))))))))))

theorem vc7 {a_path1 : ByteArray} {w : World} {R : Ending → World → Prop} (H : Vc7 a_path1 w R) : Calls Tryd.prog 7 #[.string a_path1] w R := by
  unfold Vc7 at H
  refine calls_start [.string a_path1] Tryd.func7 rfl Tryd.ntmps7 rfl ?_
  refine c_seq ?_
  intro K1 hK1
  refine c_region ?_
  refine L_val (v := .slice none 0 0) (y_assign ev_c) ?_
  refine L_val (v := .int .i64 0) (y_assign ev_c) ?_
  refine l_nil ?_
  refine then_norm ?_
  refine hK1 _ _ ?_
  clear hK1
  refine c_seq ?_
  intro K2 hK2
  refine c_seq ?_
  intro K3 hK3
  refine c_region ?_
  refine L_val (v := .string a_path1) (y_move (ev_tv rfl rfl)) ?_
  refine L_val (v := .int .i64 ((a_path1.size : Nat) : Int)) (y_lenS Tryd.underlying9 rfl (map_ev1 (ev_tv rfl rfl))) ?_
  refine L_val (v := .bool (decide ((((a_path1.size : Nat) : Int) : Int) < 1))) (y_lss (ev_tv rfl rfl) ev_c) ?_
  refine L_val (v := .bool (decide ((((a_path1.size : Nat) : Int) : Int) < 1))) (y_move (ev_tv rfl rfl)) ?_
  rcases (Decidable.em ((((a_path1.size : Nat) : Int) : Int) < 1)) with hb4 | hb4
  · replace H := H.1 hb4
    have hq5 : Value.bool (decide ((((a_path1.size : Nat) : Int) : Int) < 1)) = Value.bool true := congrArg Value.bool (decide_eq_true hb4)
    refine G_not (b' := true) (dj := 10) rfl rfl hq5 rfl ?_
    refine G_not (b' := true) (dj := 10) rfl rfl hq5 rfl ?_
    refine G_not (b' := true) (dj := 10) rfl rfl hq5 rfl ?_
    refine L_val (v := .bool true) (y_pick_t (ev_tv rfl hq5) ev_c) ?_
    refine L_val (v := .bool true) (y_move (ev_tv rfl rfl)) ?_
    refine G_not (b' := true) (dj := 15) rfl rfl rfl rfl ?_
    refine G_not (b' := true) (dj := 15) rfl rfl rfl rfl ?_
    refine G_not (b' := true) (dj := 15) rfl rfl rfl rfl ?_
    refine L_val (v := .bool true) (y_pick_t (ev_tv rfl rfl) ev_c) ?_
    refine L_val (v := .bool true) (y_move (ev_tv rfl rfl)) ?_
    refine G_not (b' := true) (dj := 20) rfl rfl rfl rfl ?_
    refine G_not (b' := true) (dj := 20) rfl rfl rfl rfl ?_
    refine G_not (b' := true) (dj := 20) rfl rfl rfl rfl ?_
    refine L_val (v := .bool true) (y_pick_t (ev_tv rfl rfl) ev_c) ?_
    refine l_nil ?_
    refine then_norm ?_
    refine hK3 _ _ ?_
    clear hK3
    refine cond_t (ev_tv rfl rfl) ?_
    refine c_seq ?_
    intro K6 hK6
    refine c_region ?_
    refine L_val (v := .slice none 0 0) (y_assign ev_c) ?_
    refine L_val (v := .int .i64 190) (y_assign ev_c) ?_
    refine l_nil ?_
    refine then_norm ?_
    refine hK6 _ _ ?_
    clear hK6
    refine c_ret ?_
    refine then_ret ?_
    exact body_2 rfl (ev_tv rfl rfl) (ev_tv rfl rfl) H
  · replace H := H.2 hb4
    have hq5 : Value.bool (decide ((((a_path1.size : Nat) : Int) : Int) < 1)) = Value.bool false := congrArg Value.bool (decide_eq_false hb4)
    refine G_val (dj := 10) rfl rfl hq5 (v := .string a_path1) (y_move (ev_tv rfl rfl)) ?_
    refine G_val (dj := 10) rfl rfl hq5 (v := .int .i64 ((a_path1.size : Nat) : Int)) (y_lenS Tryd.underlying9 rfl (map_ev1 (ev_tv rfl rfl))) ?_
    refine G_val (dj := 10) rfl rfl hq5 (v := .bool (decide ((64 : Int) < ((a_path1.size : Nat) : Int)))) (y_gtr (ev_tv rfl rfl) ev_c) ?_
    refine L_val (v := .bool (decide ((64 : Int) < ((a_path1.size : Nat) : Int)))) (y_pick_f (ev_tv rfl hq5) (ev_tv rfl rfl)) ?_
    refine L_val (v := .bool (decide ((64 : Int) < ((a_path1.size : Nat) : Int)))) (y_move (ev_tv rfl rfl)) ?_
    rcases (Decidable.em ((64 : Int) < ((a_path1.size : Nat) : Int))) with hb7 | hb7
    · replace H := H.1 hb7
      have hq8 : Value.bool (decide ((64 : Int) < ((a_path1.size : Nat) : Int))) = Value.bool true := congrArg Value.bool (decide_eq_true hb7)
      refine G_not (b' := true) (dj := 15) rfl rfl hq8 rfl ?_
      refine G_not (b' := true) (dj := 15) rfl rfl hq8 rfl ?_
      refine G_not (b' := true) (dj := 15) rfl rfl hq8 rfl ?_
      refine L_val (v := .bool true) (y_pick_t (ev_tv rfl hq8) ev_c) ?_
      refine L_val (v := .bool true) (y_move (ev_tv rfl rfl)) ?_
      refine G_not (b' := true) (dj := 20) rfl rfl rfl rfl ?_
      refine G_not (b' := true) (dj := 20) rfl rfl rfl rfl ?_
      refine G_not (b' := true) (dj := 20) rfl rfl rfl rfl ?_
      refine L_val (v := .bool true) (y_pick_t (ev_tv rfl rfl) ev_c) ?_
      refine l_nil ?_
      refine then_norm ?_
      refine hK3 _ _ ?_
      clear hK3
      refine cond_t (ev_tv rfl rfl) ?_
      refine c_seq ?_
      intro K9 hK9
      refine c_region ?_
      refine L_val (v := .slice none 0 0) (y_assign ev_c) ?_
      refine L_val (v := .int .i64 190) (y_assign ev_c) ?_
      refine l_nil ?_
      refine then_norm ?_
      refine hK9 _ _ ?_
      clear hK9
      refine c_ret ?_
      refine then_ret ?_
      exact body_2 rfl (ev_tv rfl rfl) (ev_tv rfl rfl) H
    · replace H := H.2 hb7
      have hq8 : Value.bool (decide ((64 : Int) < ((a_path1.size : Nat) : Int))) = Value.bool false := congrArg Value.bool (decide_eq_false hb7)
      refine G_val (dj := 15) rfl rfl hq8 (v := .string a_path1) (y_move (ev_tv rfl rfl)) ?_
      obtain ⟨hi10, hi11, H⟩ := H
      obtain ⟨r2, hr12⟩ : ∃ r2 : Int, r2 = strAt a_path1 (0 : Int).toNat := ⟨_, rfl⟩
      replace H := H r2 hr12
      refine G_val (dj := 15) rfl rfl hq8 (v := .int .u8 r2) (y_indexS Tryd.underlying9 (ev_tv rfl rfl) ev_c hi10 hi11 hr12) ?_
      refine G_val (dj := 15) rfl rfl hq8 (v := .bool (!decide ((r2 : Int) = 47))) (y_ine (ev_tv rfl rfl) ev_c) ?_
      refine L_val (v := .bool (!decide ((r2 : Int) = 47))) (y_pick_f (ev_tv rfl hq8) (ev_tv rfl rfl)) ?_
      refine L_val (v := .bool (!decide ((r2 : Int) = 47))) (y_move (ev_tv rfl rfl)) ?_
      rcases (Decidable.em ((r2 : Int) = 47)).symm with hb13 | hb13
      · replace H := H.1 hb13
        have hq14 : Value.bool (!decide ((r2 : Int) = 47)) = Value.bool true := congrArg Value.bool (ndec_t hb13)
        refine G_not (b' := true) (dj := 20) rfl rfl hq14 rfl ?_
        refine G_not (b' := true) (dj := 20) rfl rfl hq14 rfl ?_
        refine G_not (b' := true) (dj := 20) rfl rfl hq14 rfl ?_
        refine L_val (v := .bool true) (y_pick_t (ev_tv rfl hq14) ev_c) ?_
        refine l_nil ?_
        refine then_norm ?_
        refine hK3 _ _ ?_
        clear hK3
        refine cond_t (ev_tv rfl rfl) ?_
        refine c_seq ?_
        intro K15 hK15
        refine c_region ?_
        refine L_val (v := .slice none 0 0) (y_assign ev_c) ?_
        refine L_val (v := .int .i64 190) (y_assign ev_c) ?_
        refine l_nil ?_
        refine then_norm ?_
        refine hK15 _ _ ?_
        clear hK15
        refine c_ret ?_
        refine then_ret ?_
        exact body_2 rfl (ev_tv rfl rfl) (ev_tv rfl rfl) H
      · replace H := H.2 hb13
        have hq14 : Value.bool (!decide ((r2 : Int) = 47)) = Value.bool false := congrArg Value.bool (ndec_f hb13)
        refine G_val (dj := 20) rfl rfl hq14 (v := .string a_path1) (y_move (ev_tv rfl rfl)) ?_
        refine G_call (dj := 20) rfl rfl hq14 (y_call Tryd.call32 (map_ev2 (ev_tv rfl rfl) ev_c) ev_f) (Calls.mono H ?_)
        clear H
        rintro _ w4 ⟨x3, rfl, H⟩
        refine ⟨_, rfl, ?_⟩
        refine G_val (dj := 20) rfl rfl hq14 (v := .bool (decide ((0 : Int) ≤ x3))) (y_geq (ev_tv rfl rfl) ev_c) ?_
        refine L_val (v := .bool (decide ((0 : Int) ≤ x3))) (y_pick_f (ev_tv rfl hq14) (ev_tv rfl rfl)) ?_
        refine l_nil ?_
        refine then_norm ?_
        refine hK3 _ _ ?_
        clear hK3
        rcases (Decidable.em ((0 : Int) ≤ x3)) with hb16 | hb16
        · replace H := H.1 hb16
          have hq17 : Value.bool (decide ((0 : Int) ≤ x3)) = Value.bool true := congrArg Value.bool (decide_eq_true hb16)
          refine cond_t (ev_tv rfl hq17) ?_
          refine c_seq ?_
          intro K18 hK18
          refine c_region ?_
          refine L_val (v := .slice none 0 0) (y_assign ev_c) ?_
          refine L_val (v := .int .i64 190) (y_assign ev_c) ?_
          refine l_nil ?_
          refine then_norm ?_
          refine hK18 _ _ ?_
          clear hK18
          refine c_ret ?_
          refine then_ret ?_
          exact body_2 rfl (ev_tv rfl rfl) (ev_tv rfl rfl) H
        · replace H := H.2 hb16
          have hq17 : Value.bool (decide ((0 : Int) ≤ x3)) = Value.bool false := congrArg Value.bool (decide_eq_false hb16)
          refine cond_f (ev_tv rfl hq17) ?_
          refine c_skip ?_
          refine then_norm ?_
          refine hK2 _ _ ?_
          clear hK2
          refine c_seq ?_
          intro K19 hK19
          refine c_region ?_
          refine L_val (v := .slice none 0 0) (y_assign ev_c) ?_
          refine l_nil ?_
          refine then_norm ?_
          refine hK19 _ _ ?_
          clear hK19
          obtain ⟨J20, hJ21, H⟩ := H
          refine c_seqJ [(2, 4), (6, 6), (25, 41)] (fun ff ww => ∃ (v6 : Option Addr) (v6l : Nat) (v6c : Nat), ff 4 = (.slice v6 v6l v6c : Value) ∧ J20 v6 v6l v6c ww) ?_ ?_
          · clear hJ21
            intro K25 hK25
            refine c_seq ?_
            intro K33 hK33
            refine c_region ?_
            refine L_val (v := .string a_path1) (y_move (ev_tv rfl rfl)) ?_
            refine L_call (y_call Tryd.call33 (map_ev2 (ev_tv rfl rfl) ev_c) ev_f) (Calls.mono H ?_)
            clear H
            rintro _ w9 ⟨x8, x8l, x8c, rfl, H⟩
            refine ⟨_, rfl, ?_⟩
            refine L_val (v := .int .i64 ((x8l : Nat) : Int)) (y_len Tryd.underlying22 rfl (map_ev1 (ev_tv rfl rfl))) ?_
            refine L_val (v := .int .i64 0) (y_move ev_c) ?_
            refine l_nil ?_
            refine then_norm ?_
            refine hK33 _ _ ?_
            clear hK33
            refine c_block ?_
            obtain ⟨I34, ⟨m38, HI39⟩, H⟩ := H
            refine loop_fr ([(2, 4), (6, 6), (28, 41)]) (fun m ff ww => ∃ (v11 : Option Addr) (v11l : Nat) (v11c : Nat) (v12 : Int), ff 4 = (.slice v11 v11l v11c : Value) ∧ ff 28 = (.int .i64 v12 : Value) ∧ I34 m v11 v11l v11c v12 ww) m38 ⟨none, 0, 0, 0, rfl, rfl, HI39⟩ ?_
            rintro m13 f35 w14 hag36 ⟨v11, v11l, v11c, v12, hs40, hs41, HI37⟩
            replace H := H m13 v11 v11l v11c v12 w14 HI37
            refine c_seq ?_
            intro K42 hK42
            refine c_region ?_
            refine L_val (v := .bool (decide ((v12 : Int) < ((x8l : Nat) : Int)))) (y_lss (ev_tv rfl hs41) (ev_tv rfl ((hag36 27 rfl).trans rfl))) ?_
            refine l_nil ?_
            refine then_norm ?_
            refine hK42 _ _ ?_
            clear hK42
            refine c_seq ?_
            intro K43 hK43
            rcases (Decidable.em ((v12 : Int) < ((x8l : Nat) : Int))) with hb44 | hb44
            · replace H := H.1 hb44
              have hq45 : Value.bool (decide ((v12 : Int) < ((x8l : Nat) : Int))) = Value.bool true := congrArg Value.bool (decide_eq_true hb44)
              refine cond_t (ev_tv rfl hq45) ?_
              refine c_skip ?_
              refine then_norm ?_
              refine hK43 _ _ ?_
              clear hK43
              refine c_seq ?_
              intro K46 hK46
              refine c_block ?_
              refine c_seq ?_
              intro K47 hK47
              refine c_region ?_
              obtain ⟨b15, o16, rfl, H⟩ := H
              obtain ⟨hi48, hi49, H⟩ := H
              refine L_val (v := .pointer (some ⟨b15, o16 + (v12 : Int).toNat, none⟩)) (y_ix1 Tryd.underlying22 Tryd.type9 rfl (ev_tv rfl ((hag36 26 rfl).trans rfl)) (ev_tv rfl hs41) hi48 hi49) ?_
              obtain ⟨x17, hc50, H⟩ := H
              refine L_val (v := .string x17) (y_load Tryd.underlying9 rfl (ev_tv rfl rfl) hc50) ?_
              refine L_val (v := .string x17) (y_assign (ev_tv rfl rfl)) ?_
              refine l_nil ?_
              refine then_norm ?_
              refine hK47 _ _ ?_
              clear hK47
              refine c_seq ?_
              intro K51 hK51
              refine c_seq ?_
              intro K52 hK52
              refine c_region ?_
              refine L_val (v := .string x17) (y_move (ev_tv rfl rfl)) ?_
              refine L_val (v := .int .i64 ((x17.size : Nat) : Int)) (y_lenS Tryd.underlying9 rfl (map_ev1 (ev_tv rfl rfl))) ?_
              refine L_val (v := .bool (decide ((14 : Int) < ((x17.size : Nat) : Int)))) (y_gtr (ev_tv rfl rfl) ev_c) ?_
              refine l_nil ?_
              refine then_norm ?_
              refine hK52 _ _ ?_
              clear hK52
              rcases (Decidable.em ((14 : Int) < ((x17.size : Nat) : Int))) with hb53 | hb53
              · replace H := H.1 hb53
                have hq54 : Value.bool (decide ((14 : Int) < ((x17.size : Nat) : Int))) = Value.bool true := congrArg Value.bool (decide_eq_true hb53)
                refine cond_t (ev_tv rfl hq54) ?_
                refine c_seq ?_
                intro K55 hK55
                refine c_region ?_
                refine L_val (v := .slice none 0 0) (y_assign ev_c) ?_
                refine L_val (v := .int .i64 190) (y_assign ev_c) ?_
                refine l_nil ?_
                refine then_norm ?_
                refine hK55 _ _ ?_
                clear hK55
                refine c_ret ?_
                refine then_ret ?_
                refine block_ret ?_
                refine then_ret ?_
                refine then_ret ?_
                refine block_ret ?_
                refine then_ret ?_
                exact body_2 rfl (ev_tv rfl rfl) (ev_tv rfl rfl) H
              · replace H := H.2 hb53
                have hq54 : Value.bool (decide ((14 : Int) < ((x17.size : Nat) : Int))) = Value.bool false := congrArg Value.bool (decide_eq_false hb53)
                refine cond_f (ev_tv rfl hq54) ?_
                refine c_skip ?_
                refine then_norm ?_
                refine hK51 _ _ ?_
                clear hK51
                refine c_seq ?_
                intro K56 hK56
                refine c_region ?_
                refine L_val (v := .string x17) (y_move (ev_tv rfl rfl)) ?_
                refine L_val (v := .bool (!(x17.toList == (⟨#[]⟩ : ByteArray).toList))) (y_sne (ev_tv rfl rfl) ev_c) ?_
                refine l_nil ?_
                refine then_norm ?_
                refine hK56 _ _ ?_
                clear hK56
                rcases Bool.eq_false_or_eq_true (!(x17.toList == (⟨#[]⟩ : ByteArray).toList)) with hb57 | hb57
                · replace H := H.1 hb57
                  have hq58 : Value.bool (!(x17.toList == (⟨#[]⟩ : ByteArray).toList)) = Value.bool true := congrArg Value.bool hb57
                  refine cond_t (ev_tv rfl hq58) ?_
                  refine c_region ?_
                  refine L_val (v := .slice v11 v11l v11c) (y_move (ev_tv rfl hs40)) ?_
                  refine L_val (v := .string x17) (y_move (ev_tv rfl rfl)) ?_
                  obtain ⟨b18, hb59⟩ : ∃ b18 : Nat, b18 = World.heapSize w14 := ⟨_, rfl⟩
                  obtain ⟨w19, hw60⟩ : ∃ w19 : World, w19 = World.alloc w14 (.cells #[.string x17] 9) := ⟨_, rfl⟩
                  replace H := H b18 w19 hb59 hw60
                  refine L_val (v := .slice (some ⟨b18, 0, none⟩) 1 1) (y_buildSlice (parts_ev1 (ev_tv rfl rfl)) hb59 hw60 (by kernel_rfl)) ?_
                  obtain ⟨x21, x21l, x21c, w20, hc61, H⟩ := H
                  refine L_val (v := .slice x21 x21l x21c) (y_bi_append (map_ev2 (ev_tv rfl rfl) (ev_tv rfl rfl)) hc61) ?_
                  refine L_val (v := .slice x21 x21l x21c) (y_assign (ev_tv rfl rfl)) ?_
                  refine l_nil ?_
                  refine block_norm ?_
                  refine then_norm ?_
                  refine hK46 _ _ ?_
                  clear hK46
                  refine c_region ?_
                  obtain ⟨r22, hr62⟩ : ∃ r22 : Int, r22 = IntKind.wrap .i64 (v12 + 1) := ⟨_, rfl⟩
                  replace H := H r22 hr62
                  refine L_val (v := .int .i64 r22) (y_add (ev_tv rfl hs41) ev_c hr62) ?_
                  refine L_val (v := .int .i64 r22) (y_move (ev_tv rfl rfl)) ?_
                  refine l_nil ?_
                  refine then_norm ?_
                  obtain ⟨m23, hm63, H⟩ := H
                  exact ⟨_, rfl, (by repeat (first | exact agree_refl | exact hag36 | refine agree_upd rfl ?_ | refine agree_via hag36 rfl ?_)), m23, hm63, _, _, _, _, rfl, rfl, H⟩
                · replace H := H.2 hb57
                  have hq58 : Value.bool (!(x17.toList == (⟨#[]⟩ : ByteArray).toList)) = Value.bool false := congrArg Value.bool hb57
                  refine cond_f (ev_tv rfl hq58) ?_
                  refine c_skip ?_
                  refine block_norm ?_
                  refine then_norm ?_
                  refine hK46 _ _ ?_
                  clear hK46
                  refine c_region ?_
                  obtain ⟨r24, hr64⟩ : ∃ r24 : Int, r24 = IntKind.wrap .i64 (v12 + 1) := ⟨_, rfl⟩
                  replace H := H r24 hr64
                  refine L_val (v := .int .i64 r24) (y_add (ev_tv rfl hs41) ev_c hr64) ?_
                  refine L_val (v := .int .i64 r24) (y_move (ev_tv rfl rfl)) ?_
                  refine l_nil ?_
                  refine then_norm ?_
                  obtain ⟨m25, hm65, H⟩ := H
                  exact ⟨_, rfl, (by repeat (first | exact agree_refl | exact hag36 | refine agree_upd rfl ?_ | refine agree_via hag36 rfl ?_)), m25, hm65, _, _, _, _, hs40, rfl, H⟩
            · replace H := H.2 hb44
              have hq45 : Value.bool (decide ((v12 : Int) < ((x8l : Nat) : Int))) = Value.bool false := congrArg Value.bool (decide_eq_false hb44)
              refine cond_f (ev_tv rfl hq45) ?_
              refine c_exit ?_
              refine then_exit ?_
              refine then_exit ?_
              refine block_hit ?_
              refine then_norm ?_
              exact hK25 _ _ (by repeat (first | exact agree_refl | exact hag36 | refine agree_upd rfl ?_ | refine agree_via hag36 rfl ?_)) ⟨_, _, _, hs40, H⟩
          · clear H
            rintro f22 w7 hag23 ⟨v6, v6l, v6c, hs26, HJ24⟩
            have H := hJ21 v6 v6l v6c w7 HJ24
            clear hJ21
            refine c_seq ?_
            intro K27 hK27
            refine c_seq ?_
            intro K28 hK28
            refine c_region ?_
            refine L_val (v := .slice v6 v6l v6c) (y_move (ev_tv rfl hs26)) ?_
            refine L_val (v := .int .i64 ((v6l : Nat) : Int)) (y_len Tryd.underlying22 rfl (map_ev1 (ev_tv rfl rfl))) ?_
            refine L_val (v := .bool (decide ((32 : Int) < ((v6l : Nat) : Int)))) (y_gtr (ev_tv rfl rfl) ev_c) ?_
            refine l_nil ?_
            refine then_norm ?_
            refine hK28 _ _ ?_
            clear hK28
            rcases (Decidable.em ((32 : Int) < ((v6l : Nat) : Int))) with hb29 | hb29
            · replace H := H.1 hb29
              have hq30 : Value.bool (decide ((32 : Int) < ((v6l : Nat) : Int))) = Value.bool true := congrArg Value.bool (decide_eq_true hb29)
              refine cond_t (ev_tv rfl hq30) ?_
              refine c_seq ?_
              intro K31 hK31
              refine c_region ?_
              refine L_val (v := .slice none 0 0) (y_assign ev_c) ?_
              refine L_val (v := .int .i64 190) (y_assign ev_c) ?_
              refine l_nil ?_
              refine then_norm ?_
              refine hK31 _ _ ?_
              clear hK31
              refine c_ret ?_
              refine then_ret ?_
              exact body_2 rfl (ev_tv rfl rfl) (ev_tv rfl rfl) H
            · replace H := H.2 hb29
              have hq30 : Value.bool (decide ((32 : Int) < ((v6l : Nat) : Int))) = Value.bool false := congrArg Value.bool (decide_eq_false hb29)
              refine cond_f (ev_tv rfl hq30) ?_
              refine c_skip ?_
              refine then_norm ?_
              refine hK27 _ _ ?_
              clear hK27
              refine c_seq ?_
              intro K32 hK32
              refine c_region ?_
              refine L_val (v := .slice v6 v6l v6c) (y_move (ev_tv rfl hs26)) ?_
              refine L_val (v := .slice v6 v6l v6c) (y_assign (ev_tv rfl rfl)) ?_
              refine L_val (v := .int .i64 0) (y_assign ev_c) ?_
              refine l_nil ?_
              refine then_norm ?_
              refine hK32 _ _ ?_
              clear hK32
              refine c_ret ?_
              exact body_2 rfl (ev_tv rfl rfl) (ev_tv rfl rfl) H

/-- parapet/parapetref19.Split -/
def Vc8 (a_path1 : ByteArray) (w : World) (R : Ending → World → Prop) : Prop :=
  ((((((a_path1.size : Nat) : Int) : Int) < 1) → R (.returned (.tuple #[.slice none 0 0, .int .i64 190])) w) ∧ ((¬ ((((a_path1.size : Nat) : Int) : Int) < 1)) → ((((64 : Int) < ((a_path1.size : Nat) : Int)) → R (.returned (.tuple #[.slice none 0 0, .int .i64 190])) w) ∧ ((¬ ((64 : Int) < ((a_path1.size : Nat) : Int))) → ((0 : Int) ≤ 0 ∧ 0 < ((a_path1.size : Nat) : Int) ∧ ∀ r2 : Int, r2 = strAt a_path1 (0 : Int).toNat → (((¬ ((r2 : Int) = 47)) → R (.returned (.tuple #[.slice none 0 0, .int .i64 190])) w) ∧ (((r2 : Int) = 47) → (∃ J18 : Option Addr → Nat → Nat → World → Prop, (∀ (v3 : Option Addr) (v3l : Nat) (v3c : Nat) (w4 : World), J18 v3 v3l v3c w4 → ((((32 : Int) < ((v3l : Nat) : Int)) → R (.returned (.tuple #[.slice none 0 0, .int .i64 190])) w4) ∧ ((¬ ((32 : Int) < ((v3l : Nat) : Int))) → R (.returned (.tuple #[.slice v3 v3l v3c, .int .i64 0])) w4))) ∧ (∃ I32 : Nat → Option Addr → Nat → Nat → ByteArray → Int → World → Prop, (∃ m, I32 m none 0 0 (⟨#[]⟩ : ByteArray) 0 w) ∧ ∀ (m8 : Nat) (v5 : Option Addr) (v5l : Nat) (v5c : Nat) (v6 : ByteArray) (v7 : Int) (w9 : World), I32 m8 v5 v5l v5c v6 v7 w9 → ((((v7 : Int) ≤ ((a_path1.size : Nat) : Int)) → (∃ J47 : Bool → World → Prop, (∀ (v10 : Bool) (w11 : World), J47 v10 w11 → (((v10 = true) → ((((14 : Int) < ((v6.size : Nat) : Int)) → R (.returned (.tuple #[.slice none 0 0, .int .i64 190])) w11) ∧ ((¬ ((14 : Int) < ((v6.size : Nat) : Int))) → ((((!(v6.toList == (⟨#[]⟩ : ByteArray).toList)) = true) → (∀ (b12 : Nat) (w13 : World), b12 = World.heapSize w11 → w13 = World.alloc w11 (.cells #[.string v6] 9) → (∃ x15 : Option Addr, ∃ x15l : Nat, ∃ x15c : Nat, ∃ w14 : World, (Builtin.append_ #[22, 22] 22 #[.slice v5 v5l v5c, .slice (some ⟨b12, 0, none⟩) 1 1]).run Tryd.prog w13 = .ok (.slice x15 x15l x15c) w14 ∧ (∀ r16 : Int, r16 = IntKind.wrap .i64 (v7 + 1) → (∃ m17, m17 < m8 ∧ I32 m17 x15 x15l x15c (⟨#[]⟩ : ByteArray) r16 w14))))) ∧ (((!(v6.toList == (⟨#[]⟩ : ByteArray).toList)) = false) → (∀ r18 : Int, r18 = IntKind.wrap .i64 (v7 + 1) → (∃ m19, m19 < m8 ∧ I32 m19 v5 v5l v5c (⟨#[]⟩ : ByteArray) r18 w11))))))) ∧ ((v10 = false) → ((0 : Int) ≤ v7 ∧ v7 < ((a_path1.size : Nat) : Int) ∧ ∀ r20 : Int, r20 = strAt a_path1 (v7 : Int).toNat → ((((r20 : Int) = 0) → R (.returned (.tuple #[.slice none 0 0, .int .i64 190])) w11) ∧ ((¬ ((r20 : Int) = 0)) → ((0 : Int) ≤ v7 ∧ v7 < ((a_path1.size : Nat) : Int) ∧ ∀ r21 : Int, r21 = strAt a_path1 (v7 : Int).toNat → (∀ (b22 : Nat) (w23 : World), b22 = World.heapSize w11 → w23 = World.alloc w11 (.cells #[.int .u8 r21] 5) → (∃ x25 : ByteArray, ∃ w24 : World, (convert 71 9 (.slice (some ⟨b22, 0, none⟩) 1 1)).run Tryd.prog w23 = .ok (.string x25) w24 ∧ (v6.size + x25.size ≤ 9223372036854775807 ∧ (∀ r26 : Int, r26 = IntKind.wrap .i64 (v7 + 1) → (∃ m27, m27 < m8 ∧ I32 m27 v5 v5l v5c (v6 ++ x25) r26 w24)))))))))))) ∧ ((((v7 : Int) = ((a_path1.size : Nat) : Int)) → J47 true w9) ∧ ((¬ ((v7 : Int) = ((a_path1.size : Nat) : Int))) → ((0 : Int) ≤ v7 ∧ v7 < ((a_path1.size : Nat) : Int) ∧ ∀ r28 : Int, r28 = strAt a_path1 (v7 : Int).toNat → J47 (decide ((r28 : Int) = 47)) w9))))) ∧ ((¬ ((v7 : Int) ≤ ((a_path1.size : Nat) : Int))) → J18 v5 v5l v5c w9)))))))))))

theorem vc8 {a_path1 : ByteArray} {w : World} {R : Ending → World → Prop} (H : Vc8 a_path1 w R) : Calls Tryd.prog 8 #[.string a_path1] w R := by
  unfold Vc8 at H
  refine calls_start [.string a_path1] Tryd.func8 rfl Tryd.ntmps8 rfl ?_
  refine c_seq ?_
  intro K1 hK1
  refine c_region ?_
  refine L_val (v := .slice none 0 0) (y_assign ev_c) ?_
  refine L_val (v := .int .i64 0) (y_assign ev_c) ?_
  refine l_nil ?_
  refine then_norm ?_
  refine hK1 _ _ ?_
  clear hK1
  refine c_seq ?_
  intro K2 hK2
  refine c_seq ?_
  intro K3 hK3
  refine c_region ?_
  refine L_val (v := .string a_path1) (y_move (ev_tv rfl rfl)) ?_
  refine L_val (v := .int .i64 ((a_path1.size : Nat) : Int)) (y_lenS Tryd.underlying9 rfl (map_ev1 (ev_tv rfl rfl))) ?_
  refine L_val (v := .bool (decide ((((a_path1.size : Nat) : Int) : Int) < 1))) (y_lss (ev_tv rfl rfl) ev_c) ?_
  refine L_val (v := .bool (decide ((((a_path1.size : Nat) : Int) : Int) < 1))) (y_move (ev_tv rfl rfl)) ?_
  rcases (Decidable.em ((((a_path1.size : Nat) : Int) : Int) < 1)) with hb4 | hb4
  · replace H := H.1 hb4
    have hq5 : Value.bool (decide ((((a_path1.size : Nat) : Int) : Int) < 1)) = Value.bool true := congrArg Value.bool (decide_eq_true hb4)
    refine G_not (b' := true) (dj := 10) rfl rfl hq5 rfl ?_
    refine G_not (b' := true) (dj := 10) rfl rfl hq5 rfl ?_
    refine G_not (b' := true) (dj := 10) rfl rfl hq5 rfl ?_
    refine L_val (v := .bool true) (y_pick_t (ev_tv rfl hq5) ev_c) ?_
    refine L_val (v := .bool true) (y_move (ev_tv rfl rfl)) ?_
    refine G_not (b' := true) (dj := 15) rfl rfl rfl rfl ?_
    refine G_not (b' := true) (dj := 15) rfl rfl rfl rfl ?_
    refine G_not (b' := true) (dj := 15) rfl rfl rfl rfl ?_
    refine L_val (v := .bool true) (y_pick_t (ev_tv rfl rfl) ev_c) ?_
    refine l_nil ?_
    refine then_norm ?_
    refine hK3 _ _ ?_
    clear hK3
    refine cond_t (ev_tv rfl rfl) ?_
    refine c_seq ?_
    intro K6 hK6
    refine c_region ?_
    refine L_val (v := .slice none 0 0) (y_assign ev_c) ?_
    refine L_val (v := .int .i64 190) (y_assign ev_c) ?_
    refine l_nil ?_
    refine then_norm ?_
    refine hK6 _ _ ?_
    clear hK6
    refine c_ret ?_
    refine then_ret ?_
    exact body_2 rfl (ev_tv rfl rfl) (ev_tv rfl rfl) H
  · replace H := H.2 hb4
    have hq5 : Value.bool (decide ((((a_path1.size : Nat) : Int) : Int) < 1)) = Value.bool false := congrArg Value.bool (decide_eq_false hb4)
    refine G_val (dj := 10) rfl rfl hq5 (v := .string a_path1) (y_move (ev_tv rfl rfl)) ?_
    refine G_val (dj := 10) rfl rfl hq5 (v := .int .i64 ((a_path1.size : Nat) : Int)) (y_lenS Tryd.underlying9 rfl (map_ev1 (ev_tv rfl rfl))) ?_
    refine G_val (dj := 10) rfl rfl hq5 (v := .bool (decide ((64 : Int) < ((a_path1.size : Nat) : Int)))) (y_gtr (ev_tv rfl rfl) ev_c) ?_
    refine L_val (v := .bool (decide ((64 : Int) < ((a_path1.size : Nat) : Int)))) (y_pick_f (ev_tv rfl hq5) (ev_tv rfl rfl)) ?_
    refine L_val (v := .bool (decide ((64 : Int) < ((a_path1.size : Nat) : Int)))) (y_move (ev_tv rfl rfl)) ?_
    rcases (Decidable.em ((64 : Int) < ((a_path1.size : Nat) : Int))) with hb7 | hb7
    · replace H := H.1 hb7
      have hq8 : Value.bool (decide ((64 : Int) < ((a_path1.size : Nat) : Int))) = Value.bool true := congrArg Value.bool (decide_eq_true hb7)
      refine G_not (b' := true) (dj := 15) rfl rfl hq8 rfl ?_
      refine G_not (b' := true) (dj := 15) rfl rfl hq8 rfl ?_
      refine G_not (b' := true) (dj := 15) rfl rfl hq8 rfl ?_
      refine L_val (v := .bool true) (y_pick_t (ev_tv rfl hq8) ev_c) ?_
      refine l_nil ?_
      refine then_norm ?_
      refine hK3 _ _ ?_
      clear hK3
      refine cond_t (ev_tv rfl rfl) ?_
      refine c_seq ?_
      intro K9 hK9
      refine c_region ?_
      refine L_val (v := .slice none 0 0) (y_assign ev_c) ?_
      refine L_val (v := .int .i64 190) (y_assign ev_c) ?_
      refine l_nil ?_
      refine then_norm ?_
      refine hK9 _ _ ?_
      clear hK9
      refine c_ret ?_
      refine then_ret ?_
      exact body_2 rfl (ev_tv rfl rfl) (ev_tv rfl rfl) H
    · replace H := H.2 hb7
      have hq8 : Value.bool (decide ((64 : Int) < ((a_path1.size : Nat) : Int))) = Value.bool false := congrArg Value.bool (decide_eq_false hb7)
      refine G_val (dj := 15) rfl rfl hq8 (v := .string a_path1) (y_move (ev_tv rfl rfl)) ?_
      obtain ⟨hi10, hi11, H⟩ := H
      obtain ⟨r2, hr12⟩ : ∃ r2 : Int, r2 = strAt a_path1 (0 : Int).toNat := ⟨_, rfl⟩
      replace H := H r2 hr12
      refine G_val (dj := 15) rfl rfl hq8 (v := .int .u8 r2) (y_indexS Tryd.underlying9 (ev_tv rfl rfl) ev_c hi10 hi11 hr12) ?_
      refine G_val (dj := 15) rfl rfl hq8 (v := .bool (!decide ((r2 : Int) = 47))) (y_ine (ev_tv rfl rfl) ev_c) ?_
      refine L_val (v := .bool (!decide ((r2 : Int) = 47))) (y_pick_f (ev_tv rfl hq8) (ev_tv rfl rfl)) ?_
      refine l_nil ?_
      refine then_norm ?_
      refine hK3 _ _ ?_
      clear hK3
      rcases (Decidable.em ((r2 : Int) = 47)).symm with hb13 | hb13
      · replace H := H.1 hb13
        have hq14 : Value.bool (!decide ((r2 : Int) = 47)) = Value.bool true := congrArg Value.bool (ndec_t hb13)
        refine cond_t (ev_tv rfl hq14) ?_
        refine c_seq ?_
        intro K15 hK15
        refine c_region ?_
        refine L_val (v := .slice none 0 0) (y_assign ev_c) ?_
        refine L_val (v := .int .i64 190) (y_assign ev_c) ?_
        refine l_nil ?_
        refine then_norm ?_
        refine hK15 _ _ ?_
        clear hK15
        refine c_ret ?_
        refine then_ret ?_
        exact body_2 rfl (ev_tv rfl rfl) (ev_tv rfl rfl) H
      · replace H := H.2 hb13
        have hq14 : Value.bool (!decide ((r2 : Int) = 47)) = Value.bool false := congrArg Value.bool (ndec_f hb13)
        refine cond_f (ev_tv rfl hq14) ?_
        refine c_skip ?_
        refine then_norm ?_
        refine hK2 _ _ ?_
        clear hK2
        refine c_seq ?_
        intro K16 hK16
        refine c_region ?_
        refine L_val (v := .slice none 0 0) (y_assign ev_c) ?_
        refine l_nil ?_
        refine then_norm ?_
        refine hK16 _ _ ?_
        clear hK16
        refine c_seq ?_
        intro K17 hK17
        refine c_region ?_
        refine L_val (v := .string (⟨#[]⟩ : ByteArray)) (y_assign ev_c) ?_
        refine l_nil ?_
        refine then_norm ?_
        refine hK17 _ _ ?_
        clear hK17
        obtain ⟨J18, hJ19, H⟩ := H
        refine c_seqJ [(2, 6), (20, 55)] (fun ff ww => ∃ (v3 : Option Addr) (v3l : Nat) (v3c : Nat), ff 4 = (.slice v3 v3l v3c : Value) ∧ J18 v3 v3l v3c ww) ?_ ?_
        · clear hJ19
          intro K23 hK23
          refine c_seq ?_
          intro K31 hK31
          refine c_region ?_
          refine L_val (v := .int .i64 0) (y_assign ev_c) ?_
          refine l_nil ?_
          refine then_norm ?_
          refine hK31 _ _ ?_
          clear hK31
          refine c_block ?_
          obtain ⟨I32, ⟨m36, HI37⟩, H⟩ := H
          refine loop_fr ([(2, 6), (20, 55)]) (fun m ff ww => ∃ (v5 : Option Addr) (v5l : Nat) (v5c : Nat) (v6 : ByteArray) (v7 : Int), ff 4 = (.slice v5 v5l v5c : Value) ∧ ff 5 = (.string v6 : Value) ∧ ff 6 = (.int .i64 v7 : Value) ∧ I32 m v5 v5l v5c v6 v7 ww) m36 ⟨none, 0, 0, (⟨#[]⟩ : ByteArray), 0, rfl, rfl, rfl, HI37⟩ ?_
          rintro m8 f33 w9 hag34 ⟨v5, v5l, v5c, v6, v7, hs38, hs39, hs40, HI35⟩
          replace H := H m8 v5 v5l v5c v6 v7 w9 HI35
          refine c_seq ?_
          intro K41 hK41
          refine c_seq ?_
          intro K42 hK42
          refine c_region ?_
          refine L_val (v := .int .i64 v7) (y_move (ev_tv rfl hs40)) ?_
          refine L_val (v := .string a_path1) (y_move (ev_tv rfl ((hag34 0 rfl).trans rfl))) ?_
          refine L_val (v := .int .i64 ((a_path1.size : Nat) : Int)) (y_lenS Tryd.underlying9 rfl (map_ev1 (ev_tv rfl rfl))) ?_
          refine L_val (v := .bool (decide ((v7 : Int) ≤ ((a_path1.size : Nat) : Int)))) (y_leq (ev_tv rfl rfl) (ev_tv rfl rfl)) ?_
          refine l_nil ?_
          refine then_norm ?_
          refine hK42 _ _ ?_
          clear hK42
          rcases (Decidable.em ((v7 : Int) ≤ ((a_path1.size : Nat) : Int))) with hb43 | hb43
          · replace H := H.1 hb43
            have hq44 : Value.bool (decide ((v7 : Int) ≤ ((a_path1.size : Nat) : Int))) = Value.bool true := congrArg Value.bool (decide_eq_true hb43)
            refine cond_t (ev_tv rfl hq44) ?_
            refine c_skip ?_
            refine then_norm ?_
            refine hK41 _ _ ?_
            clear hK41
            refine c_seq ?_
            intro K45 hK45
            refine c_block ?_
            refine c_seq ?_
            intro K46 hK46
            obtain ⟨J47, hJ48, H⟩ := H
            refine c_seqJ [(26, 35)] (fun ff ww => ∃ (v10 : Bool), ff 35 = (.bool v10 : Value) ∧ J47 v10 ww) ?_ ?_
            · clear hJ48
              intro K52 hK52
              refine c_region ?_
              refine L_val (v := .int .i64 v7) (y_move (ev_tv rfl hs40)) ?_
              refine L_val (v := .string a_path1) (y_move (ev_tv rfl ((hag34 0 rfl).trans rfl))) ?_
              refine L_val (v := .int .i64 ((a_path1.size : Nat) : Int)) (y_lenS Tryd.underlying9 rfl (map_ev1 (ev_tv rfl rfl))) ?_
              refine L_val (v := .bool (decide ((v7 : Int) = ((a_path1.size : Nat) : Int)))) (y_ieq (ev_tv rfl rfl) (ev_tv rfl rfl)) ?_
              refine L_val (v := .bool (decide ((v7 : Int) = ((a_path1.size : Nat) : Int)))) (y_move (ev_tv rfl rfl)) ?_
              rcases (Decidable.em ((v7 : Int) = ((a_path1.size : Nat) : Int))) with hb91 | hb91
              · replace H := H.1 hb91
                have hq92 : Value.bool (decide ((v7 : Int) = ((a_path1.size : Nat) : Int))) = Value.bool true := congrArg Value.bool (decide_eq_true hb91)
                refine G_not (b' := true) (dj := 30) rfl rfl hq92 rfl ?_
                refine G_not (b' := true) (dj := 30) rfl rfl hq92 rfl ?_
                refine G_not (b' := true) (dj := 30) rfl rfl hq92 rfl ?_
                refine G_not (b' := true) (dj := 30) rfl rfl hq92 rfl ?_
                refine L_val (v := .bool true) (y_pick_t (ev_tv rfl hq92) ev_c) ?_
                refine l_nil ?_
                refine then_norm ?_
                exact hK52 _ _ (by repeat (first | exact agree_refl | exact hag34 | refine agree_upd rfl ?_ | refine agree_via hag34 rfl ?_)) ⟨_, rfl, H⟩
              · replace H := H.2 hb91
                have hq92 : Value.bool (decide ((v7 : Int) = ((a_path1.size : Nat) : Int))) = Value.bool false := congrArg Value.bool (decide_eq_false hb91)
                refine G_val (dj := 30) rfl rfl hq92 (v := .string a_path1) (y_move (ev_tv rfl ((hag34 0 rfl).trans rfl))) ?_
                refine G_val (dj := 30) rfl rfl hq92 (v := .int .i64 v7) (y_move (ev_tv rfl hs40)) ?_
                obtain ⟨hi93, hi94, H⟩ := H
                obtain ⟨r28, hr95⟩ : ∃ r28 : Int, r28 = strAt a_path1 (v7 : Int).toNat := ⟨_, rfl⟩
                replace H := H r28 hr95
                refine G_val (dj := 30) rfl rfl hq92 (v := .int .u8 r28) (y_indexS Tryd.underlying9 (ev_tv rfl rfl) (ev_tv rfl rfl) hi93 hi94 hr95) ?_
                refine G_val (dj := 30) rfl rfl hq92 (v := .bool (decide ((r28 : Int) = 47))) (y_ieq (ev_tv rfl rfl) ev_c) ?_
                refine L_val (v := .bool (decide ((r28 : Int) = 47))) (y_pick_f (ev_tv rfl hq92) (ev_tv rfl rfl)) ?_
                refine l_nil ?_
                refine then_norm ?_
                exact hK52 _ _ (by repeat (first | exact agree_refl | exact hag34 | refine agree_upd rfl ?_ | refine agree_via hag34 rfl ?_)) ⟨_, rfl, H⟩
            · clear H
              rintro f49 w11 hag50 ⟨v10, hs53, HJ51⟩
              have H := hJ48 v10 w11 HJ51
              clear hJ48
              rcases Bool.eq_false_or_eq_true v10 with hb54 | hb54
              · replace H := H.1 hb54
                have hq55 : Value.bool (v10) = Value.bool true := congrArg Value.bool hb54
                refine cond_t (ev_tv rfl (hs53.trans hq55)) ?_
                refine c_seq ?_
                intro K56 hK56
                refine c_seq ?_
                intro K57 hK57
                refine c_region ?_
                refine L_val (v := .string v6) (y_move (ev_tv rfl ((hag50 5 rfl).trans hs39))) ?_
                refine L_val (v := .int .i64 ((v6.size : Nat) : Int)) (y_lenS Tryd.underlying9 rfl (map_ev1 (ev_tv rfl rfl))) ?_
                refine L_val (v := .bool (decide ((14 : Int) < ((v6.size : Nat) : Int)))) (y_gtr (ev_tv rfl rfl) ev_c) ?_
                refine l_nil ?_
                refine then_norm ?_
                refine hK57 _ _ ?_
                clear hK57
                rcases (Decidable.em ((14 : Int) < ((v6.size : Nat) : Int))) with hb58 | hb58
                · replace H := H.1 hb58
                  have hq59 : Value.bool (decide ((14 : Int) < ((v6.size : Nat) : Int))) = Value.bool true := congrArg Value.bool (decide_eq_true hb58)
                  refine cond_t (ev_tv rfl hq59) ?_
                  refine c_seq ?_
                  intro K60 hK60
                  refine c_region ?_
                  refine L_val (v := .slice none 0 0) (y_assign ev_c) ?_
                  refine L_val (v := .int .i64 190) (y_assign ev_c) ?_
                  refine l_nil ?_
                  refine then_norm ?_
                  refine hK60 _ _ ?_
                  clear hK60
                  refine c_ret ?_
                  refine then_ret ?_
                  refine then_ret ?_
                  refine block_ret ?_
                  refine then_ret ?_
                  refine then_ret ?_
                  refine block_ret ?_
                  refine then_ret ?_
                  exact body_2 rfl (ev_tv rfl rfl) (ev_tv rfl rfl) H
                · replace H := H.2 hb58
                  have hq59 : Value.bool (decide ((14 : Int) < ((v6.size : Nat) : Int))) = Value.bool false := congrArg Value.bool (decide_eq_false hb58)
                  refine cond_f (ev_tv rfl hq59) ?_
                  refine c_skip ?_
                  refine then_norm ?_
                  refine hK56 _ _ ?_
                  clear hK56
                  refine c_seq ?_
                  intro K61 hK61
                  refine c_seq ?_
                  intro K62 hK62
                  refine c_region ?_
                  refine L_val (v := .string v6) (y_move (ev_tv rfl ((hag50 5 rfl).trans hs39))) ?_
                  refine L_val (v := .bool (!(v6.toList == (⟨#[]⟩ : ByteArray).toList))) (y_sne (ev_tv rfl rfl) ev_c) ?_
                  refine l_nil ?_
                  refine then_norm ?_
                  refine hK62 _ _ ?_
                  clear hK62
                  rcases Bool.eq_false_or_eq_true (!(v6.toList == (⟨#[]⟩ : ByteArray).toList)) with hb63 | hb63
                  · replace H := H.1 hb63
                    have hq64 : Value.bool (!(v6.toList == (⟨#[]⟩ : ByteArray).toList)) = Value.bool true := congrArg Value.bool hb63
                    refine cond_t (ev_tv rfl hq64) ?_
                    refine c_region ?_
                    refine L_val (v := .slice v5 v5l v5c) (y_move (ev_tv rfl ((hag50 4 rfl).trans hs38))) ?_
                    refine L_val (v := .string v6) (y_move (ev_tv rfl ((hag50 5 rfl).trans hs39))) ?_
                    obtain ⟨b12, hb65⟩ : ∃ b12 : Nat, b12 = World.heapSize w11 := ⟨_, rfl⟩
                    obtain ⟨w13, hw66⟩ : ∃ w13 : World, w13 = World.alloc w11 (.cells #[.string v6] 9) := ⟨_, rfl⟩
                    replace H := H b12 w13 hb65 hw66
                    refine L_val (v := .slice (some ⟨b12, 0, none⟩) 1 1) (y_buildSlice (parts_ev1 (ev_tv rfl rfl)) hb65 hw66 (by kernel_rfl)) ?_
                    obtain ⟨x15, x15l, x15c, w14, hc67, H⟩ := H
                    refine L_val (v := .slice x15 x15l x15c) (y_bi_append (map_ev2 (ev_tv rfl rfl) (ev_tv rfl rfl)) hc67) ?_
                    refine L_val (v := .slice x15 x15l x15c) (y_assign (ev_tv rfl rfl)) ?_
                    refine l_nil ?_
                    refine then_norm ?_
                    refine hK61 _ _ ?_
                    clear hK61
                    refine c_seq ?_
                    intro K68 hK68
                    refine c_region ?_
                    refine L_val (v := .string (⟨#[]⟩ : ByteArray)) (y_assign ev_c) ?_
                    refine l_nil ?_
                    refine then_norm ?_
                    refine hK68 _ _ ?_
                    clear hK68
                    refine c_exit ?_
                    refine then_exit ?_
                    refine block_hit ?_
                    refine then_norm ?_
                    refine hK45 _ _ ?_
                    clear hK45
                    refine c_region ?_
                    refine L_val (v := .int .i64 v7) (y_move (ev_tv rfl ((hag50 6 rfl).trans hs40))) ?_
                    obtain ⟨r16, hr69⟩ : ∃ r16 : Int, r16 = IntKind.wrap .i64 (v7 + 1) := ⟨_, rfl⟩
                    replace H := H r16 hr69
                    refine L_val (v := .int .i64 r16) (y_add (ev_tv rfl rfl) ev_c hr69) ?_
                    refine L_val (v := .int .i64 r16) (y_assign (ev_tv rfl rfl)) ?_
                    refine l_nil ?_
                    refine then_norm ?_
                    obtain ⟨m17, hm70, H⟩ := H
                    exact ⟨_, rfl, (by repeat (first | exact agree_refl | exact hag50 | exact hag34 | refine agree_upd rfl ?_ | refine agree_via hag50 rfl ?_ | refine agree_via hag34 rfl ?_)), m17, hm70, _, _, _, _, _, rfl, rfl, rfl, H⟩
                  · replace H := H.2 hb63
                    have hq64 : Value.bool (!(v6.toList == (⟨#[]⟩ : ByteArray).toList)) = Value.bool false := congrArg Value.bool hb63
                    refine cond_f (ev_tv rfl hq64) ?_
                    refine c_skip ?_
                    refine then_norm ?_
                    refine hK61 _ _ ?_
                    clear hK61
                    refine c_seq ?_
                    intro K71 hK71
                    refine c_region ?_
                    refine L_val (v := .string (⟨#[]⟩ : ByteArray)) (y_assign ev_c) ?_
                    refine l_nil ?_
                    refine then_norm ?_
                    refine hK71 _ _ ?_
                    clear hK71
                    refine c_exit ?_
                    refine then_exit ?_
                    refine block_hit ?_
                    refine then_norm ?_
                    refine hK45 _ _ ?_
                    clear hK45
                    refine c_region ?_
                    refine L_val (v := .int .i64 v7) (y_move (ev_tv rfl ((hag50 6 rfl).trans hs40))) ?_
                    obtain ⟨r18, hr72⟩ : ∃ r18 : Int, r18 = IntKind.wrap .i64 (v7 + 1) := ⟨_, rfl⟩
                    replace H := H r18 hr72
                    refine L_val (v := .int .i64 r18) (y_add (ev_tv rfl rfl) ev_c hr72) ?_
                    refine L_val (v := .int .i64 r18) (y_assign (ev_tv rfl rfl)) ?_
                    refine l_nil ?_
                    refine then_norm ?_
                    obtain ⟨m19, hm73, H⟩ := H
                    exact ⟨_, rfl, (by repeat (first | exact agree_refl | exact hag50 | exact hag34 | refine agree_upd rfl ?_ | refine agree_via hag50 rfl ?_ | refine agree_via hag34 rfl ?_)), m19, hm73, _, _, _, _, _, ((hag50 4 rfl).trans hs38), rfl, rfl, H⟩
              · replace H := H.2 hb54
                have hq55 : Value.bool (v10) = Value.bool false := congrArg Value.bool hb54
                refine cond_f (ev_tv rfl (hs53.trans hq55)) ?_
                refine c_skip ?_
                refine then_norm ?_
                refine hK46 _ _ ?_
                clear hK46
                refine c_seq ?_
                intro K74 hK74
                refine c_seq ?_
                intro K75 hK75
                refine c_region ?_
                refine L_val (v := .string a_path1) (y_move (ev_tv rfl ((hag50 0 rfl).trans ((hag34 0 rfl).trans rfl)))) ?_
                refine L_val (v := .int .i64 v7) (y_move (ev_tv rfl ((hag50 6 rfl).trans hs40))) ?_
                obtain ⟨hi76, hi77, H⟩ := H
                obtain ⟨r20, hr78⟩ : ∃ r20 : Int, r20 = strAt a_path1 (v7 : Int).toNat := ⟨_, rfl⟩
                replace H := H r20 hr78
                refine L_val (v := .int .u8 r20) (y_indexS Tryd.underlying9 (ev_tv rfl rfl) (ev_tv rfl rfl) hi76 hi77 hr78) ?_
                refine L_val (v := .bool (decide ((r20 : Int) = 0))) (y_ieq (ev_tv rfl rfl) ev_c) ?_
                refine l_nil ?_
                refine then_norm ?_
                refine hK75 _ _ ?_
                clear hK75
                rcases (Decidable.em ((r20 : Int) = 0)) with hb79 | hb79
                · replace H := H.1 hb79
                  have hq80 : Value.bool (decide ((r20 : Int) = 0)) = Value.bool true := congrArg Value.bool (decide_eq_true hb79)
                  refine cond_t (ev_tv rfl hq80) ?_
                  refine c_seq ?_
                  intro K81 hK81
                  refine c_region ?_
                  refine L_val (v := .slice none 0 0) (y_assign ev_c) ?_
                  refine L_val (v := .int .i64 190) (y_assign ev_c) ?_
                  refine l_nil ?_
                  refine then_norm ?_
                  refine hK81 _ _ ?_
                  clear hK81
                  refine c_ret ?_
                  refine then_ret ?_
                  refine block_ret ?_
                  refine then_ret ?_
                  refine then_ret ?_
                  refine block_ret ?_
                  refine then_ret ?_
                  exact body_2 rfl (ev_tv rfl rfl) (ev_tv rfl rfl) H
                · replace H := H.2 hb79
                  have hq80 : Value.bool (decide ((r20 : Int) = 0)) = Value.bool false := congrArg Value.bool (decide_eq_false hb79)
                  refine cond_f (ev_tv rfl hq80) ?_
                  refine c_skip ?_
                  refine then_norm ?_
                  refine hK74 _ _ ?_
                  clear hK74
                  refine c_region ?_
                  refine L_val (v := .string v6) (y_move (ev_tv rfl ((hag50 5 rfl).trans hs39))) ?_
                  refine L_val (v := .string a_path1) (y_move (ev_tv rfl ((hag50 0 rfl).trans ((hag34 0 rfl).trans rfl)))) ?_
                  refine L_val (v := .int .i64 v7) (y_move (ev_tv rfl ((hag50 6 rfl).trans hs40))) ?_
                  obtain ⟨hi82, hi83, H⟩ := H
                  obtain ⟨r21, hr84⟩ : ∃ r21 : Int, r21 = strAt a_path1 (v7 : Int).toNat := ⟨_, rfl⟩
                  replace H := H r21 hr84
                  refine L_val (v := .int .u8 r21) (y_indexS Tryd.underlying9 (ev_tv rfl rfl) (ev_tv rfl rfl) hi82 hi83 hr84) ?_
                  obtain ⟨b22, hb85⟩ : ∃ b22 : Nat, b22 = World.heapSize w11 := ⟨_, rfl⟩
                  obtain ⟨w23, hw86⟩ : ∃ w23 : World, w23 = World.alloc w11 (.cells #[.int .u8 r21] 5) := ⟨_, rfl⟩
                  replace H := H b22 w23 hb85 hw86
                  refine L_val (v := .slice (some ⟨b22, 0, none⟩) 1 1) (y_buildSlice (parts_ev1 (ev_tv rfl rfl)) hb85 hw86 (by kernel_rfl)) ?_
                  obtain ⟨x25, w24, hc87, H⟩ := H
                  refine L_val (v := .string x25) (y_conv (ev_tv rfl rfl) hc87) ?_
                  obtain ⟨hs88, H⟩ := H
                  refine L_val (v := .string (v6 ++ x25)) (y_sadd (ev_tv rfl rfl) (ev_tv rfl rfl) hs88) ?_
                  refine L_val (v := .string (v6 ++ x25)) (y_assign (ev_tv rfl rfl)) ?_
                  refine l_nil ?_
                  refine block_norm ?_
                  refine then_norm ?_
                  refine hK45 _ _ ?_
                  clear hK45
                  refine c_region ?_
                  refine L_val (v := .int .i64 v7) (y_move (ev_tv rfl ((hag50 6 rfl).trans hs40))) ?_
                  obtain ⟨r26, hr89⟩ : ∃ r26 : Int, r26 = IntKind.wrap .i64 (v7 + 1) := ⟨_, rfl⟩
                  replace H := H r26 hr89
                  refine L_val (v := .int .i64 r26) (y_add (ev_tv rfl rfl) ev_c hr89) ?_
                  refine L_val (v := .int .i64 r26) (y_assign (ev_tv rfl rfl)) ?_
                  refine l_nil ?_
                  refine then_norm ?_
                  obtain ⟨m27, hm90, H⟩ := H
                  exact ⟨_, rfl, (by repeat (first | exact agree_refl | exact hag50 | exact hag34 | refine agree_upd rfl ?_ | refine agree_via hag50 rfl ?_ | refine agree_via hag34 rfl ?_)), m27, hm90, _, _, _, _, _, ((hag50 4 rfl).trans hs38), rfl, rfl, H⟩
          · replace H := H.2 hb43
            have hq44 : Value.bool (decide ((v7 : Int) ≤ ((a_path1.size : Nat) : Int))) = Value.bool false := congrArg Value.bool (decide_eq_false hb43)
            refine cond_f (ev_tv rfl hq44) ?_
            refine c_exit ?_
            refine then_exit ?_
            refine then_exit ?_
            refine block_hit ?_
            refine then_norm ?_
            exact hK23 _ _ (by repeat (first | exact agree_refl | exact hag34 | refine agree_upd rfl ?_ | refine agree_via hag34 rfl ?_)) ⟨_, _, _, hs38, H⟩
        · clear H
          rintro f20 w4 hag21 ⟨v3, v3l, v3c, hs24, HJ22⟩
          have H := hJ19 v3 v3l v3c w4 HJ22
          clear hJ19
          refine c_seq ?_
          intro K25 hK25
          refine c_seq ?_
          intro K26 hK26
          refine c_region ?_
          refine L_val (v := .slice v3 v3l v3c) (y_move (ev_tv rfl hs24)) ?_
          refine L_val (v := .int .i64 ((v3l : Nat) : Int)) (y_len Tryd.underlying22 rfl (map_ev1 (ev_tv rfl rfl))) ?_
          refine L_val (v := .bool (decide ((32 : Int) < ((v3l : Nat) : Int)))) (y_gtr (ev_tv rfl rfl) ev_c) ?_
          refine l_nil ?_
          refine then_norm ?_
          refine hK26 _ _ ?_
          clear hK26
          rcases (Decidable.em ((32 : Int) < ((v3l : Nat) : Int))) with hb27 | hb27
          · replace H := H.1 hb27
            have hq28 : Value.bool (decide ((32 : Int) < ((v3l : Nat) : Int))) = Value.bool true := congrArg Value.bool (decide_eq_true hb27)
            refine cond_t (ev_tv rfl hq28) ?_
            refine c_seq ?_
            intro K29 hK29
            refine c_region ?_
            refine L_val (v := .slice none 0 0) (y_assign ev_c) ?_
            refine L_val (v := .int .i64 190) (y_assign ev_c) ?_
            refine l_nil ?_
            refine then_norm ?_
            refine hK29 _ _ ?_
            clear hK29
            refine c_ret ?_
            refine then_ret ?_
            exact body_2 rfl (ev_tv rfl rfl) (ev_tv rfl rfl) H
          · replace H := H.2 hb27
            have hq28 : Value.bool (decide ((32 : Int) < ((v3l : Nat) : Int))) = Value.bool false := congrArg Value.bool (decide_eq_false hb27)
            refine cond_f (ev_tv rfl hq28) ?_
            refine c_skip ?_
            refine then_norm ?_
            refine hK25 _ _ ?_
            clear hK25
            refine c_seq ?_
            intro K30 hK30
            refine c_region ?_
            refine L_val (v := .slice v3 v3l v3c) (y_move (ev_tv rfl hs24)) ?_
            refine L_val (v := .slice v3 v3l v3c) (y_assign (ev_tv rfl rfl)) ?_
            refine L_val (v := .int .i64 0) (y_assign ev_c) ?_
            refine l_nil ?_
            refine then_norm ?_
            refine hK30 _ _ ?_
            clear hK30
            refine c_ret ?_
            exact body_2 rfl (ev_tv rfl rfl) (ev_tv rfl rfl) H

/-- parapet/parapetlaw19.lives -/
def Vc9  (w : World) (R : Ending → World → Prop) : Prop :=
  (Calls Tryd.prog 7 #[.string (⟨#[47, 47, 97, 47, 98, 47]⟩ : ByteArray)] w fun e w3 => ∃ x1 : Option Addr, ∃ x1l : Nat, ∃ x1c : Nat, ∃ x2 : Int, e = .returned (.tuple #[.slice x1 x1l x1c, .int .i64 x2]) ∧ (Calls Tryd.prog 11 #[.int .i64 2] w3 fun e w7 => ∃ x5 : Option Addr, ∃ x6 : Int, e = .returned (.tuple #[.pointer x5, .int .i64 x6]) ∧ (Calls Tryd.prog 12 #[.pointer x5, .int .i64 4] w7 fun e w11 => ∃ x9 : Option Addr, ∃ x10 : Int, e = .returned (.tuple #[.pointer x9, .int .i64 x10]) ∧ (((¬ ((x2 : Int) = 0)) → R (.returned (.bool false)) w11) ∧ (((x2 : Int) = 0) → (((¬ ((x6 : Int) = 0)) → R (.returned (.bool false)) w11) ∧ (((x6 : Int) = 0) → (((¬ ((x10 : Int) = 0)) → R (.returned (.bool false)) w11) ∧ (((x10 : Int) = 0) → (((x9 = none) → R (.returned (.bool false)) w11) ∧ ((x9 ≠ none) → (((¬ ((((x1l : Nat) : Int) : Int) = 2)) → R (.returned (.bool false)) w11) ∧ (((((x1l : Nat) : Int) : Int) = 2) → (∃ (b13 o14 : Nat), x1 = some ⟨b13, o14, none⟩ ∧ ((0 : Int) ≤ 1 ∧ 1 < ((x1l : Nat) : Int) ∧ (∃ x15 : ByteArray, World.cell? w11 ⟨b13, o14 + (1 : Int).toNat, none⟩ = some (.string x15) ∧ ((((!(x15.toList == (⟨#[98]⟩ : ByteArray).toList)) = true) → R (.returned (.bool false)) w11) ∧ (((!(x15.toList == (⟨#[98]⟩ : ByteArray).toList)) = false) → (Calls Tryd.prog 15 #[.pointer x9, .agg #[.int .i64 1, .string (⟨#[120]⟩ : ByteArray)], .int .i64 5] w11 fun e w17 => ∃ x16 : Int, e = .returned (.int .i64 x16) ∧ (Calls Tryd.prog 13 #[.pointer x9, .agg #[.int .i64 1, .string (⟨#[120]⟩ : ByteArray)]] w17 fun e w21 => ∃ x19 : Int, ∃ x20 : Bool, e = .returned (.tuple #[.int .i64 x19, .bool x20]) ∧ ((((x19 : Int) = 5) → (((x20 = true) → (Calls Tryd.prog 17 #[.pointer x9, .agg #[.int .i64 1, .string (⟨#[120]⟩ : ByteArray)]] w21 fun e w24 => ∃ x23 : Bool, e = .returned (.bool x23) ∧ (((x23 = true) → (Calls Tryd.prog 21 #[.pointer x5] w24 fun e w27 => ∃ x26 : Option Addr, ∃ x26l : Nat, ∃ x26c : Nat, e = .returned (.slice x26 x26l x26c) ∧ R (.returned (.bool (decide ((((x26l : Nat) : Int) : Int) = 1)))) w27)) ∧ ((x23 = false) → R (.returned (.bool false)) w24)))) ∧ ((x20 = false) → R (.returned (.bool false)) w21))) ∧ ((¬ ((x19 : Int) = 5)) → R (.returned (.bool false)) w21))))))))))))))))))))))

theorem vc9  {w : World} {R : Ending → World → Prop} (H : Vc9  w R) : Calls Tryd.prog 9 #[] w R := by
  unfold Vc9 at H
  refine calls_start [] Tryd.func9 rfl Tryd.ntmps9 rfl ?_
  refine c_seq ?_
  intro K1 hK1
  refine c_region ?_
  refine L_val (v := .bool false) (y_assign ev_c) ?_
  refine l_nil ?_
  refine then_norm ?_
  refine hK1 _ _ ?_
  clear hK1
  refine c_seq ?_
  intro K2 hK2
  refine c_region ?_
  refine L_call (y_call Tryd.call7 (map_ev1 ev_c) ev_f) (Calls.mono H ?_)
  clear H
  rintro _ w3 ⟨x1, x1l, x1c, x2, rfl, H⟩
  refine ⟨_, rfl, ?_⟩
  refine L_val (v := .tuple #[.slice x1 x1l x1c, .int .i64 x2]) (y_move (ev_tv rfl rfl)) ?_
  refine L_val (v := .slice x1 x1l x1c) (y_extract (ev_tv rfl rfl) rfl) ?_
  refine L_val (v := .int .i64 x2) (y_extract (ev_tv rfl rfl) rfl) ?_
  refine L_val (v := .slice x1 x1l x1c) (y_assign (ev_tv rfl rfl)) ?_
  refine L_val (v := .int .i64 x2) (y_assign (ev_tv rfl rfl)) ?_
  refine l_nil ?_
  refine then_norm ?_
  refine hK2 _ _ ?_
  clear hK2
  refine c_seq ?_
  intro K3 hK3
  refine c_region ?_
  refine L_call (y_call Tryd.call11 (map_ev1 ev_c) ev_f) (Calls.mono H ?_)
  clear H
  rintro _ w7 ⟨x5, x6, rfl, H⟩
  refine ⟨_, rfl, ?_⟩
  refine L_val (v := .tuple #[.pointer x5, .int .i64 x6]) (y_move (ev_tv rfl rfl)) ?_
  refine L_val (v := .pointer x5) (y_extract (ev_tv rfl rfl) rfl) ?_
  refine L_val (v := .int .i64 x6) (y_extract (ev_tv rfl rfl) rfl) ?_
  refine L_val (v := .pointer x5) (y_assign (ev_tv rfl rfl)) ?_
  refine L_val (v := .int .i64 x6) (y_assign (ev_tv rfl rfl)) ?_
  refine l_nil ?_
  refine then_norm ?_
  refine hK3 _ _ ?_
  clear hK3
  refine c_seq ?_
  intro K4 hK4
  refine c_region ?_
  refine L_val (v := .pointer x5) (y_move (ev_tv rfl rfl)) ?_
  refine L_call (y_call Tryd.call12 (map_ev2 (ev_tv rfl rfl) ev_c) ev_f) (Calls.mono H ?_)
  clear H
  rintro _ w11 ⟨x9, x10, rfl, H⟩
  refine ⟨_, rfl, ?_⟩
  refine L_val (v := .tuple #[.pointer x9, .int .i64 x10]) (y_move (ev_tv rfl rfl)) ?_
  refine L_val (v := .pointer x9) (y_extract (ev_tv rfl rfl) rfl) ?_
  refine L_val (v := .int .i64 x10) (y_extract (ev_tv rfl rfl) rfl) ?_
  refine L_val (v := .pointer x9) (y_assign (ev_tv rfl rfl)) ?_
  refine L_val (v := .int .i64 x10) (y_assign (ev_tv rfl rfl)) ?_
  refine l_nil ?_
  refine then_norm ?_
  refine hK4 _ _ ?_
  clear hK4
  refine c_seq ?_
  intro K5 hK5
  refine c_seq ?_
  intro K6 hK6
  refine c_region ?_
  refine L_val (v := .int .i64 x2) (y_move (ev_tv rfl rfl)) ?_
  refine L_val (v := .bool (!decide ((x2 : Int) = 0))) (y_ine (ev_tv rfl rfl) ev_c) ?_
  refine L_val (v := .bool (!decide ((x2 : Int) = 0))) (y_move (ev_tv rfl rfl)) ?_
  rcases (Decidable.em ((x2 : Int) = 0)).symm with hb7 | hb7
  · replace H := H.1 hb7
    have hq8 : Value.bool (!decide ((x2 : Int) = 0)) = Value.bool true := congrArg Value.bool (ndec_t hb7)
    refine G_not (b' := true) (dj := 24) rfl rfl hq8 rfl ?_
    refine G_not (b' := true) (dj := 24) rfl rfl hq8 rfl ?_
    refine L_val (v := .bool true) (y_pick_t (ev_tv rfl hq8) ev_c) ?_
    refine L_val (v := .bool true) (y_move (ev_tv rfl rfl)) ?_
    refine G_not (b' := true) (dj := 28) rfl rfl rfl rfl ?_
    refine G_not (b' := true) (dj := 28) rfl rfl rfl rfl ?_
    refine L_val (v := .bool true) (y_pick_t (ev_tv rfl rfl) ev_c) ?_
    refine L_val (v := .bool true) (y_move (ev_tv rfl rfl)) ?_
    refine G_not (b' := true) (dj := 32) rfl rfl rfl rfl ?_
    refine G_not (b' := true) (dj := 32) rfl rfl rfl rfl ?_
    refine L_val (v := .bool true) (y_pick_t (ev_tv rfl rfl) ev_c) ?_
    refine L_val (v := .bool true) (y_move (ev_tv rfl rfl)) ?_
    refine G_not (b' := true) (dj := 36) rfl rfl rfl rfl ?_
    refine G_not (b' := true) (dj := 36) rfl rfl rfl rfl ?_
    refine G_not (b' := true) (dj := 36) rfl rfl rfl rfl ?_
    refine L_val (v := .bool true) (y_pick_t (ev_tv rfl rfl) ev_c) ?_
    refine L_val (v := .bool true) (y_move (ev_tv rfl rfl)) ?_
    refine G_not (b' := true) (dj := 41) rfl rfl rfl rfl ?_
    refine G_not (b' := true) (dj := 41) rfl rfl rfl rfl ?_
    refine G_not (b' := true) (dj := 41) rfl rfl rfl rfl ?_
    refine G_not (b' := true) (dj := 41) rfl rfl rfl rfl ?_
    refine L_val (v := .bool true) (y_pick_t (ev_tv rfl rfl) ev_c) ?_
    refine l_nil ?_
    refine then_norm ?_
    refine hK6 _ _ ?_
    clear hK6
    refine cond_t (ev_tv rfl rfl) ?_
    refine c_seq ?_
    intro K9 hK9
    refine c_region ?_
    refine L_val (v := .bool false) (y_assign ev_c) ?_
    refine l_nil ?_
    refine then_norm ?_
    refine hK9 _ _ ?_
    clear hK9
    refine c_ret ?_
    refine then_ret ?_
    exact body_1 rfl (ev_tv rfl rfl) H
  · replace H := H.2 hb7
    have hq8 : Value.bool (!decide ((x2 : Int) = 0)) = Value.bool false := congrArg Value.bool (ndec_f hb7)
    refine G_val (dj := 24) rfl rfl hq8 (v := .int .i64 x6) (y_move (ev_tv rfl rfl)) ?_
    refine G_val (dj := 24) rfl rfl hq8 (v := .bool (!decide ((x6 : Int) = 0))) (y_ine (ev_tv rfl rfl) ev_c) ?_
    refine L_val (v := .bool (!decide ((x6 : Int) = 0))) (y_pick_f (ev_tv rfl hq8) (ev_tv rfl rfl)) ?_
    refine L_val (v := .bool (!decide ((x6 : Int) = 0))) (y_move (ev_tv rfl rfl)) ?_
    rcases (Decidable.em ((x6 : Int) = 0)).symm with hb10 | hb10
    · replace H := H.1 hb10
      have hq11 : Value.bool (!decide ((x6 : Int) = 0)) = Value.bool true := congrArg Value.bool (ndec_t hb10)
      refine G_not (b' := true) (dj := 28) rfl rfl hq11 rfl ?_
      refine G_not (b' := true) (dj := 28) rfl rfl hq11 rfl ?_
      refine L_val (v := .bool true) (y_pick_t (ev_tv rfl hq11) ev_c) ?_
      refine L_val (v := .bool true) (y_move (ev_tv rfl rfl)) ?_
      refine G_not (b' := true) (dj := 32) rfl rfl rfl rfl ?_
      refine G_not (b' := true) (dj := 32) rfl rfl rfl rfl ?_
      refine L_val (v := .bool true) (y_pick_t (ev_tv rfl rfl) ev_c) ?_
      refine L_val (v := .bool true) (y_move (ev_tv rfl rfl)) ?_
      refine G_not (b' := true) (dj := 36) rfl rfl rfl rfl ?_
      refine G_not (b' := true) (dj := 36) rfl rfl rfl rfl ?_
      refine G_not (b' := true) (dj := 36) rfl rfl rfl rfl ?_
      refine L_val (v := .bool true) (y_pick_t (ev_tv rfl rfl) ev_c) ?_
      refine L_val (v := .bool true) (y_move (ev_tv rfl rfl)) ?_
      refine G_not (b' := true) (dj := 41) rfl rfl rfl rfl ?_
      refine G_not (b' := true) (dj := 41) rfl rfl rfl rfl ?_
      refine G_not (b' := true) (dj := 41) rfl rfl rfl rfl ?_
      refine G_not (b' := true) (dj := 41) rfl rfl rfl rfl ?_
      refine L_val (v := .bool true) (y_pick_t (ev_tv rfl rfl) ev_c) ?_
      refine l_nil ?_
      refine then_norm ?_
      refine hK6 _ _ ?_
      clear hK6
      refine cond_t (ev_tv rfl rfl) ?_
      refine c_seq ?_
      intro K12 hK12
      refine c_region ?_
      refine L_val (v := .bool false) (y_assign ev_c) ?_
      refine l_nil ?_
      refine then_norm ?_
      refine hK12 _ _ ?_
      clear hK12
      refine c_ret ?_
      refine then_ret ?_
      exact body_1 rfl (ev_tv rfl rfl) H
    · replace H := H.2 hb10
      have hq11 : Value.bool (!decide ((x6 : Int) = 0)) = Value.bool false := congrArg Value.bool (ndec_f hb10)
      refine G_val (dj := 28) rfl rfl hq11 (v := .int .i64 x10) (y_move (ev_tv rfl rfl)) ?_
      refine G_val (dj := 28) rfl rfl hq11 (v := .bool (!decide ((x10 : Int) = 0))) (y_ine (ev_tv rfl rfl) ev_c) ?_
      refine L_val (v := .bool (!decide ((x10 : Int) = 0))) (y_pick_f (ev_tv rfl hq11) (ev_tv rfl rfl)) ?_
      refine L_val (v := .bool (!decide ((x10 : Int) = 0))) (y_move (ev_tv rfl rfl)) ?_
      rcases (Decidable.em ((x10 : Int) = 0)).symm with hb13 | hb13
      · replace H := H.1 hb13
        have hq14 : Value.bool (!decide ((x10 : Int) = 0)) = Value.bool true := congrArg Value.bool (ndec_t hb13)
        refine G_not (b' := true) (dj := 32) rfl rfl hq14 rfl ?_
        refine G_not (b' := true) (dj := 32) rfl rfl hq14 rfl ?_
        refine L_val (v := .bool true) (y_pick_t (ev_tv rfl hq14) ev_c) ?_
        refine L_val (v := .bool true) (y_move (ev_tv rfl rfl)) ?_
        refine G_not (b' := true) (dj := 36) rfl rfl rfl rfl ?_
        refine G_not (b' := true) (dj := 36) rfl rfl rfl rfl ?_
        refine G_not (b' := true) (dj := 36) rfl rfl rfl rfl ?_
        refine L_val (v := .bool true) (y_pick_t (ev_tv rfl rfl) ev_c) ?_
        refine L_val (v := .bool true) (y_move (ev_tv rfl rfl)) ?_
        refine G_not (b' := true) (dj := 41) rfl rfl rfl rfl ?_
        refine G_not (b' := true) (dj := 41) rfl rfl rfl rfl ?_
        refine G_not (b' := true) (dj := 41) rfl rfl rfl rfl ?_
        refine G_not (b' := true) (dj := 41) rfl rfl rfl rfl ?_
        refine L_val (v := .bool true) (y_pick_t (ev_tv rfl rfl) ev_c) ?_
        refine l_nil ?_
        refine then_norm ?_
        refine hK6 _ _ ?_
        clear hK6
        refine cond_t (ev_tv rfl rfl) ?_
        refine c_seq ?_
        intro K15 hK15
        refine c_region ?_
        refine L_val (v := .bool false) (y_assign ev_c) ?_
        refine l_nil ?_
        refine then_norm ?_
        refine hK15 _ _ ?_
        clear hK15
        refine c_ret ?_
        refine then_ret ?_
        exact body_1 rfl (ev_tv rfl rfl) H
      · replace H := H.2 hb13
        have hq14 : Value.bool (!decide ((x10 : Int) = 0)) = Value.bool false := congrArg Value.bool (ndec_f hb13)
        refine G_val (dj := 32) rfl rfl hq14 (v := .pointer x9) (y_move (ev_tv rfl rfl)) ?_
        refine G_val (dj := 32) rfl rfl hq14 (v := .bool (x9.isNone)) (y_peq Tryd.underlying33 (ev_tv rfl rfl) ev_c) ?_
        refine L_val (v := .bool (x9.isNone)) (y_pick_f (ev_tv rfl hq14) (ev_tv rfl rfl)) ?_
        refine L_val (v := .bool (x9.isNone)) (y_move (ev_tv rfl rfl)) ?_
        rcases (Classical.em (x9 = none)) with hb16 | hb16
        · replace H := H.1 hb16
          have hq17 : Value.bool (x9.isNone) = Value.bool true := congrArg Value.bool (isn_t hb16)
          refine G_not (b' := true) (dj := 36) rfl rfl hq17 rfl ?_
          refine G_not (b' := true) (dj := 36) rfl rfl hq17 rfl ?_
          refine G_not (b' := true) (dj := 36) rfl rfl hq17 rfl ?_
          refine L_val (v := .bool true) (y_pick_t (ev_tv rfl hq17) ev_c) ?_
          refine L_val (v := .bool true) (y_move (ev_tv rfl rfl)) ?_
          refine G_not (b' := true) (dj := 41) rfl rfl rfl rfl ?_
          refine G_not (b' := true) (dj := 41) rfl rfl rfl rfl ?_
          refine G_not (b' := true) (dj := 41) rfl rfl rfl rfl ?_
          refine G_not (b' := true) (dj := 41) rfl rfl rfl rfl ?_
          refine L_val (v := .bool true) (y_pick_t (ev_tv rfl rfl) ev_c) ?_
          refine l_nil ?_
          refine then_norm ?_
          refine hK6 _ _ ?_
          clear hK6
          refine cond_t (ev_tv rfl rfl) ?_
          refine c_seq ?_
          intro K18 hK18
          refine c_region ?_
          refine L_val (v := .bool false) (y_assign ev_c) ?_
          refine l_nil ?_
          refine then_norm ?_
          refine hK18 _ _ ?_
          clear hK18
          refine c_ret ?_
          refine then_ret ?_
          exact body_1 rfl (ev_tv rfl rfl) H
        · replace H := H.2 hb16
          have hq17 : Value.bool (x9.isNone) = Value.bool false := congrArg Value.bool (isn_f hb16)
          refine G_val (dj := 36) rfl rfl hq17 (v := .slice x1 x1l x1c) (y_move (ev_tv rfl rfl)) ?_
          refine G_val (dj := 36) rfl rfl hq17 (v := .int .i64 ((x1l : Nat) : Int)) (y_len Tryd.underlying22 rfl (map_ev1 (ev_tv rfl rfl))) ?_
          refine G_val (dj := 36) rfl rfl hq17 (v := .bool (!decide ((((x1l : Nat) : Int) : Int) = 2))) (y_ine (ev_tv rfl rfl) ev_c) ?_
          refine L_val (v := .bool (!decide ((((x1l : Nat) : Int) : Int) = 2))) (y_pick_f (ev_tv rfl hq17) (ev_tv rfl rfl)) ?_
          refine L_val (v := .bool (!decide ((((x1l : Nat) : Int) : Int) = 2))) (y_move (ev_tv rfl rfl)) ?_
          rcases (Decidable.em ((((x1l : Nat) : Int) : Int) = 2)).symm with hb19 | hb19
          · replace H := H.1 hb19
            have hq20 : Value.bool (!decide ((((x1l : Nat) : Int) : Int) = 2)) = Value.bool true := congrArg Value.bool (ndec_t hb19)
            refine G_not (b' := true) (dj := 41) rfl rfl hq20 rfl ?_
            refine G_not (b' := true) (dj := 41) rfl rfl hq20 rfl ?_
            refine G_not (b' := true) (dj := 41) rfl rfl hq20 rfl ?_
            refine G_not (b' := true) (dj := 41) rfl rfl hq20 rfl ?_
            refine L_val (v := .bool true) (y_pick_t (ev_tv rfl hq20) ev_c) ?_
            refine l_nil ?_
            refine then_norm ?_
            refine hK6 _ _ ?_
            clear hK6
            refine cond_t (ev_tv rfl rfl) ?_
            refine c_seq ?_
            intro K21 hK21
            refine c_region ?_
            refine L_val (v := .bool false) (y_assign ev_c) ?_
            refine l_nil ?_
            refine then_norm ?_
            refine hK21 _ _ ?_
            clear hK21
            refine c_ret ?_
            refine then_ret ?_
            exact body_1 rfl (ev_tv rfl rfl) H
          · replace H := H.2 hb19
            have hq20 : Value.bool (!decide ((((x1l : Nat) : Int) : Int) = 2)) = Value.bool false := congrArg Value.bool (ndec_f hb19)
            refine G_val (dj := 41) rfl rfl hq20 (v := .slice x1 x1l x1c) (y_move (ev_tv rfl rfl)) ?_
            obtain ⟨b13, o14, rfl, H⟩ := H
            obtain ⟨hi22, hi23, H⟩ := H
            refine G_val (dj := 41) rfl rfl hq20 (v := .pointer (some ⟨b13, o14 + (1 : Int).toNat, none⟩)) (y_ix1 Tryd.underlying22 Tryd.type9 rfl (ev_tv rfl rfl) ev_c hi22 hi23) ?_
            obtain ⟨x15, hc24, H⟩ := H
            refine G_val (dj := 41) rfl rfl hq20 (v := .string x15) (y_load Tryd.underlying9 rfl (ev_tv rfl rfl) hc24) ?_
            refine G_val (dj := 41) rfl rfl hq20 (v := .bool (!(x15.toList == (⟨#[98]⟩ : ByteArray).toList))) (y_sne (ev_tv rfl rfl) ev_c) ?_
            refine L_val (v := .bool (!(x15.toList == (⟨#[98]⟩ : ByteArray).toList))) (y_pick_f (ev_tv rfl hq20) (ev_tv rfl rfl)) ?_
            refine l_nil ?_
            refine then_norm ?_
            refine hK6 _ _ ?_
            clear hK6
            rcases Bool.eq_false_or_eq_true (!(x15.toList == (⟨#[98]⟩ : ByteArray).toList)) with hb25 | hb25
            · replace H := H.1 hb25
              have hq26 : Value.bool (!(x15.toList == (⟨#[98]⟩ : ByteArray).toList)) = Value.bool true := congrArg Value.bool hb25
              refine cond_t (ev_tv rfl hq26) ?_
              refine c_seq ?_
              intro K27 hK27
              refine c_region ?_
              refine L_val (v := .bool false) (y_assign ev_c) ?_
              refine l_nil ?_
              refine then_norm ?_
              refine hK27 _ _ ?_
              clear hK27
              refine c_ret ?_
              refine then_ret ?_
              exact body_1 rfl (ev_tv rfl rfl) H
            · replace H := H.2 hb25
              have hq26 : Value.bool (!(x15.toList == (⟨#[98]⟩ : ByteArray).toList)) = Value.bool false := congrArg Value.bool hb25
              refine cond_f (ev_tv rfl hq26) ?_
              refine c_skip ?_
              refine then_norm ?_
              refine hK5 _ _ ?_
              clear hK5
              refine c_seq ?_
              intro K28 hK28
              refine c_region ?_
              refine L_val (v := .pointer x9) (y_move (ev_tv rfl rfl)) ?_
              refine L_val (v := .agg #[.int .i64 1, .string (⟨#[120]⟩ : ByteArray)]) (y_build (parts_ev2 ev_c ev_c) (by kernel_rfl)) ?_
              refine L_call (y_call Tryd.call15 (map_ev3 (ev_tv rfl rfl) (ev_tv rfl rfl) ev_c) ev_f) (Calls.mono H ?_)
              clear H
              rintro _ w17 ⟨x16, rfl, H⟩
              refine ⟨_, rfl, ?_⟩
              refine l_nil ?_
              refine then_norm ?_
              refine hK28 _ _ ?_
              clear hK28
              refine c_seq ?_
              intro K29 hK29
              refine c_region ?_
              refine L_val (v := .pointer x9) (y_move (ev_tv rfl rfl)) ?_
              refine L_val (v := .agg #[.int .i64 1, .string (⟨#[120]⟩ : ByteArray)]) (y_build (parts_ev2 ev_c ev_c) (by kernel_rfl)) ?_
              refine L_call (y_call Tryd.call13 (map_ev2 (ev_tv rfl rfl) (ev_tv rfl rfl)) ev_f) (Calls.mono H ?_)
              clear H
              rintro _ w21 ⟨x19, x20, rfl, H⟩
              refine ⟨_, rfl, ?_⟩
              refine L_val (v := .tuple #[.int .i64 x19, .bool x20]) (y_move (ev_tv rfl rfl)) ?_
              refine L_val (v := .int .i64 x19) (y_extract (ev_tv rfl rfl) rfl) ?_
              refine L_val (v := .bool x20) (y_extract (ev_tv rfl rfl) rfl) ?_
              refine L_val (v := .int .i64 x19) (y_assign (ev_tv rfl rfl)) ?_
              refine L_val (v := .bool x20) (y_assign (ev_tv rfl rfl)) ?_
              refine l_nil ?_
              refine then_norm ?_
              refine hK29 _ _ ?_
              clear hK29
              refine c_seq ?_
              intro K30 hK30
              refine c_region ?_
              refine L_val (v := .int .i64 x19) (y_move (ev_tv rfl rfl)) ?_
              refine L_val (v := .bool (decide ((x19 : Int) = 5))) (y_ieq (ev_tv rfl rfl) ev_c) ?_
              refine L_val (v := .bool (decide ((x19 : Int) = 5))) (y_move (ev_tv rfl rfl)) ?_
              rcases (Decidable.em ((x19 : Int) = 5)) with hb31 | hb31
              · replace H := H.1 hb31
                have hq32 : Value.bool (decide ((x19 : Int) = 5)) = Value.bool true := congrArg Value.bool (decide_eq_true hb31)
                refine G_val (dj := 58) rfl rfl hq32 (v := .bool x20) (y_move (ev_tv rfl rfl)) ?_
                refine L_val (v := .bool x20) (y_pick_t (ev_tv rfl hq32) (ev_tv rfl rfl)) ?_
                refine L_val (v := .bool x20) (y_move (ev_tv rfl rfl)) ?_
                rcases Bool.eq_false_or_eq_true x20 with hb33 | hb33
                · replace H := H.1 hb33
                  have hq34 : Value.bool (x20) = Value.bool true := congrArg Value.bool hb33
                  refine G_val (dj := 61) rfl rfl hq34 (v := .pointer x9) (y_move (ev_tv rfl rfl)) ?_
                  refine G_val (dj := 61) rfl rfl hq34 (v := .agg #[.int .i64 1, .string (⟨#[120]⟩ : ByteArray)]) (y_build (parts_ev2 ev_c ev_c) (by kernel_rfl)) ?_
                  refine G_call (dj := 61) rfl rfl hq34 (y_call Tryd.call17 (map_ev2 (ev_tv rfl rfl) (ev_tv rfl rfl)) ev_f) (Calls.mono H ?_)
                  clear H
                  rintro _ w24 ⟨x23, rfl, H⟩
                  refine ⟨_, rfl, ?_⟩
                  refine L_val (v := .bool x23) (y_pick_t (ev_tv rfl hq34) (ev_tv rfl rfl)) ?_
                  refine L_val (v := .bool x23) (y_move (ev_tv rfl rfl)) ?_
                  rcases Bool.eq_false_or_eq_true x23 with hb35 | hb35
                  · replace H := H.1 hb35
                    have hq36 : Value.bool (x23) = Value.bool true := congrArg Value.bool hb35
                    refine G_val (dj := 66) rfl rfl hq36 (v := .pointer x5) (y_move (ev_tv rfl rfl)) ?_
                    refine G_call (dj := 66) rfl rfl hq36 (y_call Tryd.call21 (map_ev1 (ev_tv rfl rfl)) ev_f) (Calls.mono H ?_)
                    clear H
                    rintro _ w27 ⟨x26, x26l, x26c, rfl, H⟩
                    refine ⟨_, rfl, ?_⟩
                    refine G_val (dj := 66) rfl rfl hq36 (v := .int .i64 ((x26l : Nat) : Int)) (y_len Tryd.underlying38 rfl (map_ev1 (ev_tv rfl rfl))) ?_
                    refine G_val (dj := 66) rfl rfl hq36 (v := .bool (decide ((((x26l : Nat) : Int) : Int) = 1))) (y_ieq (ev_tv rfl rfl) ev_c) ?_
                    refine L_val (v := .bool (decide ((((x26l : Nat) : Int) : Int) = 1))) (y_pick_t (ev_tv rfl hq36) (ev_tv rfl rfl)) ?_
                    refine L_val (v := .bool (decide ((((x26l : Nat) : Int) : Int) = 1))) (y_assign (ev_tv rfl rfl)) ?_
                    refine l_nil ?_
                    refine then_norm ?_
                    refine hK30 _ _ ?_
                    clear hK30
                    refine c_ret ?_
                    exact body_1 rfl (ev_tv rfl rfl) H
                  · replace H := H.2 hb35
                    have hq36 : Value.bool (x23) = Value.bool false := congrArg Value.bool hb35
                    refine G_not (b' := false) (dj := 66) rfl rfl hq36 rfl ?_
                    refine G_not (b' := false) (dj := 66) rfl rfl hq36 rfl ?_
                    refine G_not (b' := false) (dj := 66) rfl rfl hq36 rfl ?_
                    refine G_not (b' := false) (dj := 66) rfl rfl hq36 rfl ?_
                    refine L_val (v := .bool false) (y_pick_f (ev_tv rfl hq36) ev_c) ?_
                    refine L_val (v := .bool false) (y_assign (ev_tv rfl rfl)) ?_
                    refine l_nil ?_
                    refine then_norm ?_
                    refine hK30 _ _ ?_
                    clear hK30
                    refine c_ret ?_
                    exact body_1 rfl (ev_tv rfl rfl) H
                · replace H := H.2 hb33
                  have hq34 : Value.bool (x20) = Value.bool false := congrArg Value.bool hb33
                  refine G_not (b' := false) (dj := 61) rfl rfl hq34 rfl ?_
                  refine G_not (b' := false) (dj := 61) rfl rfl hq34 rfl ?_
                  refine G_not (b' := false) (dj := 61) rfl rfl hq34 rfl ?_
                  refine L_val (v := .bool false) (y_pick_f (ev_tv rfl hq34) ev_c) ?_
                  refine L_val (v := .bool false) (y_move (ev_tv rfl rfl)) ?_
                  refine G_not (b' := false) (dj := 66) rfl rfl rfl rfl ?_
                  refine G_not (b' := false) (dj := 66) rfl rfl rfl rfl ?_
                  refine G_not (b' := false) (dj := 66) rfl rfl rfl rfl ?_
                  refine G_not (b' := false) (dj := 66) rfl rfl rfl rfl ?_
                  refine L_val (v := .bool false) (y_pick_f (ev_tv rfl rfl) ev_c) ?_
                  refine L_val (v := .bool false) (y_assign (ev_tv rfl rfl)) ?_
                  refine l_nil ?_
                  refine then_norm ?_
                  refine hK30 _ _ ?_
                  clear hK30
                  refine c_ret ?_
                  exact body_1 rfl (ev_tv rfl rfl) H
              · replace H := H.2 hb31
                have hq32 : Value.bool (decide ((x19 : Int) = 5)) = Value.bool false := congrArg Value.bool (decide_eq_false hb31)
                refine G_not (b' := false) (dj := 58) rfl rfl hq32 rfl ?_
                refine L_val (v := .bool false) (y_pick_f (ev_tv rfl hq32) ev_c) ?_
                refine L_val (v := .bool false) (y_move (ev_tv rfl rfl)) ?_
                refine G_not (b' := false) (dj := 61) rfl rfl rfl rfl ?_
                refine G_not (b' := false) (dj := 61) rfl rfl rfl rfl ?_
                refine G_not (b' := false) (dj := 61) rfl rfl rfl rfl ?_
                refine L_val (v := .bool false) (y_pick_f (ev_tv rfl rfl) ev_c) ?_
                refine L_val (v := .bool false) (y_move (ev_tv rfl rfl)) ?_
                refine G_not (b' := false) (dj := 66) rfl rfl rfl rfl ?_
                refine G_not (b' := false) (dj := 66) rfl rfl rfl rfl ?_
                refine G_not (b' := false) (dj := 66) rfl rfl rfl rfl ?_
                refine G_not (b' := false) (dj := 66) rfl rfl rfl rfl ?_
                refine L_val (v := .bool false) (y_pick_f (ev_tv rfl rfl) ev_c) ?_
                refine L_val (v := .bool false) (y_assign (ev_tv rfl rfl)) ?_
                refine l_nil ?_
                refine then_norm ?_
                refine hK30 _ _ ?_
                clear hK30
                refine c_ret ?_
                exact body_1 rfl (ev_tv rfl rfl) H

/-- parapet/parapetlaw19.sameTexts -/
def Vc10 (a_a1 : Option Addr) (a_a1l : Nat) (a_a1c : Nat) (a_b2 : Option Addr) (a_b2l : Nat) (a_b2c : Nat) (w : World) (R : Ending → World → Prop) : Prop :=
  (((¬ ((((a_a1l : Nat) : Int) : Int) = ((a_b2l : Nat) : Int))) → R (.returned (.bool false)) w) ∧ (((((a_a1l : Nat) : Int) : Int) = ((a_b2l : Nat) : Int)) → (∃ I9 : Nat → Int → World → Prop, (∃ m, I9 m 0 w) ∧ ∀ (m4 : Nat) (v3 : Int) (w5 : World), I9 m4 v3 w5 → ((((v3 : Int) < ((a_a1l : Nat) : Int)) → (∃ (b6 o7 : Nat), a_a1 = some ⟨b6, o7, none⟩ ∧ ((0 : Int) ≤ v3 ∧ v3 < ((a_a1l : Nat) : Int) ∧ (∃ (b8 o9 : Nat), a_b2 = some ⟨b8, o9, none⟩ ∧ ((0 : Int) ≤ v3 ∧ v3 < ((a_b2l : Nat) : Int) ∧ (∃ x10 : ByteArray, World.cell? (w5.drew) ⟨b6, o7 + (v3 : Int).toNat, none⟩ = some (.string x10) ∧ (∃ x11 : ByteArray, World.cell? (w5.drew) ⟨b8, o9 + (v3 : Int).toNat, none⟩ = some (.string x11) ∧ ((((!(x10.toList == x11.toList)) = true) → R (.returned (.bool false)) (w5.drew)) ∧ (((!(x10.toList == x11.toList)) = false) → (∀ r12 : Int, r12 = IntKind.wrap .i64 (v3 + 1) → (∃ m13, m13 < m4 ∧ I9 m13 r12 (w5.drew)))))))))))) ∧ ((¬ ((v3 : Int) < ((a_a1l : Nat) : Int))) → R (.returned (.bool true)) w5)))))

theorem vc10 {a_a1 : Option Addr} {a_a1l : Nat} {a_a1c : Nat} {a_b2 : Option Addr} {a_b2l : Nat} {a_b2c : Nat} {w : World} {R : Ending → World → Prop} (H : Vc10 a_a1 a_a1l a_a1c a_b2 a_b2l a_b2c w R) : Calls Tryd.prog 10 #[.slice a_a1 a_a1l a_a1c, .slice a_b2 a_b2l a_b2c] w R := by
  unfold Vc10 at H
  refine calls_start [.slice a_a1 a_a1l a_a1c, .slice a_b2 a_b2l a_b2c] Tryd.func10 rfl Tryd.ntmps10 rfl ?_
  refine c_seq ?_
  intro K1 hK1
  refine c_region ?_
  refine L_val (v := .bool false) (y_assign ev_c) ?_
  refine l_nil ?_
  refine then_norm ?_
  refine hK1 _ _ ?_
  clear hK1
  refine c_seq ?_
  intro K2 hK2
  refine c_seq ?_
  intro K3 hK3
  refine c_region ?_
  refine L_val (v := .slice a_a1 a_a1l a_a1c) (y_move (ev_tv rfl rfl)) ?_
  refine L_val (v := .int .i64 ((a_a1l : Nat) : Int)) (y_len Tryd.underlying22 rfl (map_ev1 (ev_tv rfl rfl))) ?_
  refine L_val (v := .slice a_b2 a_b2l a_b2c) (y_move (ev_tv rfl rfl)) ?_
  refine L_val (v := .int .i64 ((a_b2l : Nat) : Int)) (y_len Tryd.underlying22 rfl (map_ev1 (ev_tv rfl rfl))) ?_
  refine L_val (v := .bool (!decide ((((a_a1l : Nat) : Int) : Int) = ((a_b2l : Nat) : Int)))) (y_ine (ev_tv rfl rfl) (ev_tv rfl rfl)) ?_
  refine l_nil ?_
  refine then_norm ?_
  refine hK3 _ _ ?_
  clear hK3
  rcases (Decidable.em ((((a_a1l : Nat) : Int) : Int) = ((a_b2l : Nat) : Int))).symm with hb4 | hb4
  · replace H := H.1 hb4
    have hq5 : Value.bool (!decide ((((a_a1l : Nat) : Int) : Int) = ((a_b2l : Nat) : Int))) = Value.bool true := congrArg Value.bool (ndec_t hb4)
    refine cond_t (ev_tv rfl hq5) ?_
    refine c_seq ?_
    intro K6 hK6
    refine c_region ?_
    refine L_val (v := .bool false) (y_assign ev_c) ?_
    refine l_nil ?_
    refine then_norm ?_
    refine hK6 _ _ ?_
    clear hK6
    refine c_ret ?_
    refine then_ret ?_
    exact body_1 rfl (ev_tv rfl rfl) H
  · replace H := H.2 hb4
    have hq5 : Value.bool (!decide ((((a_a1l : Nat) : Int) : Int) = ((a_b2l : Nat) : Int))) = Value.bool false := congrArg Value.bool (ndec_f hb4)
    refine cond_f (ev_tv rfl hq5) ?_
    refine c_skip ?_
    refine then_norm ?_
    refine hK2 _ _ ?_
    clear hK2
    refine c_seq ?_
    intro K7 hK7
    refine c_seq ?_
    intro K8 hK8
    refine c_region ?_
    refine L_val (v := .int .i64 0) (y_assign ev_c) ?_
    refine l_nil ?_
    refine then_norm ?_
    refine hK8 _ _ ?_
    clear hK8
    refine c_block ?_
    obtain ⟨I9, ⟨m13, HI14⟩, H⟩ := H
    refine loop_fr ([(4, 5), (11, 25)]) (fun m ff ww => ∃ (v3 : Int), ff 5 = (.int .i64 v3 : Value) ∧ I9 m v3 ww) m13 ⟨0, rfl, HI14⟩ ?_
    rintro m4 f10 w5 hag11 ⟨v3, hs15, HI12⟩
    replace H := H m4 v3 w5 HI12
    refine c_seq ?_
    intro K16 hK16
    refine c_seq ?_
    intro K17 hK17
    refine c_region ?_
    refine L_val (v := .int .i64 v3) (y_move (ev_tv rfl hs15)) ?_
    refine L_val (v := .slice a_a1 a_a1l a_a1c) (y_move (ev_tv rfl ((hag11 0 rfl).trans rfl))) ?_
    refine L_val (v := .int .i64 ((a_a1l : Nat) : Int)) (y_len Tryd.underlying22 rfl (map_ev1 (ev_tv rfl rfl))) ?_
    refine L_val (v := .bool (decide ((v3 : Int) < ((a_a1l : Nat) : Int)))) (y_lss (ev_tv rfl rfl) (ev_tv rfl rfl)) ?_
    refine l_nil ?_
    refine then_norm ?_
    refine hK17 _ _ ?_
    clear hK17
    rcases (Decidable.em ((v3 : Int) < ((a_a1l : Nat) : Int))) with hb18 | hb18
    · replace H := H.1 hb18
      have hq19 : Value.bool (decide ((v3 : Int) < ((a_a1l : Nat) : Int))) = Value.bool true := congrArg Value.bool (decide_eq_true hb18)
      refine cond_t (ev_tv rfl hq19) ?_
      refine c_skip ?_
      refine then_norm ?_
      refine hK16 _ _ ?_
      clear hK16
      refine c_seq ?_
      intro K20 hK20
      refine c_block ?_
      refine c_seq ?_
      intro K21 hK21
      refine D_start Tryd.mixed rfl [] ?_
      refine start_keep fun hS => ?_
      refine D_pure (i := 0) (v := .slice a_a1 a_a1l a_a1c) rfl (by kernel_rfl) (W_none rfl) (fun _ => y_move (ev_tv rfl ((hag11 0 rfl).trans rfl))) hS ?_
      intro hS
      refine D_pure (i := 1) (v := .int .i64 v3) rfl (by kernel_rfl) (W_none rfl) (fun _ => y_move (ev_tv rfl hs15)) hS ?_
      intro hS
      obtain ⟨b6, o7, rfl, H⟩ := H
      obtain ⟨hi22, hi23, H⟩ := H
      refine D_pure (i := 2) (v := .pointer (some ⟨b6, o7 + (v3 : Int).toNat, none⟩)) rfl (by kernel_rfl) (W_none rfl) (fun _ => y_ix1 Tryd.underlying22 Tryd.type9 rfl (ev_tv rfl rfl) (ev_tv rfl rfl) hi22 hi23) hS ?_
      intro hS
      refine D_pure (i := 4) (v := .slice a_b2 a_b2l a_b2c) rfl (by kernel_rfl) (W_none rfl) (fun _ => y_move (ev_tv rfl ((hag11 1 rfl).trans rfl))) hS ?_
      intro hS
      refine D_pure (i := 5) (v := .int .i64 v3) rfl (by kernel_rfl) (W_none rfl) (fun _ => y_move (ev_tv rfl hs15)) hS ?_
      intro hS
      obtain ⟨b8, o9, rfl, H⟩ := H
      obtain ⟨hi24, hi25, H⟩ := H
      refine D_pure (i := 6) (v := .pointer (some ⟨b8, o9 + (v3 : Int).toNat, none⟩)) rfl (by kernel_rfl) (W_none rfl) (fun _ => y_ix1 Tryd.underlying22 Tryd.type9 rfl (ev_tv rfl rfl) (ev_tv rfl rfl) hi24 hi25) hS ?_
      intro hS
      obtain ⟨x10, hc26, H⟩ := H
      refine D_read (i := 3) (v := .string x10) rfl (by kernel_rfl) (W_none rfl) (fun wx => World.cell? wx ⟨b6, o7 + (v3 : Int).toNat, none⟩ = some (.string x10)) hc26 (fun _ hcx => y_load Tryd.underlying9 rfl (ev_tv rfl rfl) hcx) hS ?_
      intro hS
      obtain ⟨x11, hc27, H⟩ := H
      refine D_read (i := 7) (v := .string x11) rfl (by kernel_rfl) (W_none rfl) (fun wx => World.cell? wx ⟨b8, o9 + (v3 : Int).toNat, none⟩ = some (.string x11)) hc27 (fun _ hcx => y_load Tryd.underlying9 rfl (ev_tv rfl rfl) hcx) hS ?_
      intro hS
      refine D_pure (i := 8) (v := .bool (!(x10.toList == x11.toList))) rfl (by kernel_rfl) (W_none rfl) (fun _ => y_sne (ev_tv rfl rfl) (ev_tv rfl rfl)) hS ?_
      intro hS
      refine D_done (by kernel_rfl) ?_
      refine then_norm ?_
      refine hK21 _ _ ?_
      clear hK21
      rcases Bool.eq_false_or_eq_true (!(x10.toList == x11.toList)) with hb28 | hb28
      · replace H := H.1 hb28
        have hq29 : Value.bool (!(x10.toList == x11.toList)) = Value.bool true := congrArg Value.bool hb28
        refine cond_t (ev_tv rfl hq29) ?_
        refine c_seq ?_
        intro K30 hK30
        refine c_region ?_
        refine L_val (v := .bool false) (y_assign ev_c) ?_
        refine l_nil ?_
        refine then_norm ?_
        refine hK30 _ _ ?_
        clear hK30
        refine c_ret ?_
        refine block_ret ?_
        refine then_ret ?_
        refine then_ret ?_
        refine block_ret ?_
        refine then_ret ?_
        exact body_1 rfl (ev_tv rfl rfl) H
      · replace H := H.2 hb28
        have hq29 : Value.bool (!(x10.toList == x11.toList)) = Value.bool false := congrArg Value.bool hb28
        refine cond_f (ev_tv rfl hq29) ?_
        refine c_skip ?_
        refine block_norm ?_
        refine then_norm ?_
        refine hK20 _ _ ?_
        clear hK20
        refine c_region ?_
        refine L_val (v := .int .i64 v3) (y_move (ev_tv rfl hs15)) ?_
        obtain ⟨r12, hr31⟩ : ∃ r12 : Int, r12 = IntKind.wrap .i64 (v3 + 1) := ⟨_, rfl⟩
        replace H := H r12 hr31
        refine L_val (v := .int .i64 r12) (y_add (ev_tv rfl rfl) ev_c hr31) ?_
        refine L_val (v := .int .i64 r12) (y_assign (ev_tv rfl rfl)) ?_
        refine l_nil ?_
        refine then_norm ?_
        obtain ⟨m13, hm32, H⟩ := H
        exact ⟨_, rfl, (by repeat (first | exact agree_refl | exact hag11 | refine agree_upd rfl ?_ | refine agree_via hag11 rfl ?_)), m13, hm32, _, rfl, H⟩
    · replace H := H.2 hb18
      have hq19 : Value.bool (decide ((v3 : Int) < ((a_a1l : Nat) : Int))) = Value.bool false := congrArg Value.bool (decide_eq_false hb18)
      refine cond_f (ev_tv rfl hq19) ?_
      refine c_exit ?_
      refine then_exit ?_
      refine then_exit ?_
      refine block_hit ?_
      refine then_norm ?_
      refine hK7 _ _ ?_
      clear hK7
      refine c_seq ?_
      intro K33 hK33
      refine c_region ?_
      refine L_val (v := .bool true) (y_assign ev_c) ?_
      refine l_nil ?_
      refine then_norm ?_
      refine hK33 _ _ ?_
      clear hK33
      refine c_ret ?_
      exact body_1 rfl (ev_tv rfl rfl) H

/-- parapet/rcu.New -/
def Vc11 (a_harts1 : Int) (w : World) (R : Ending → World → Prop) : Prop :=
  ((((a_harts1 : Int) < 1) → R (.returned (.tuple #[.pointer none, .int .i64 1])) w) ∧ ((¬ ((a_harts1 : Int) < 1)) → ((((8 : Int) < a_harts1) → R (.returned (.tuple #[.pointer none, .int .i64 1])) w) ∧ ((¬ ((8 : Int) < a_harts1)) → ((∃ x3 : Option Addr, ∃ x3l : Nat, ∃ x3c : Nat, ∃ w2 : World, (Instr.makeSlice 38 (.int .i64 a_harts1) (.int .i64 a_harts1)).run Tryd.prog (w.drew) = .ok (.slice x3 x3l x3c) w2 ∧ (∃ x5 : Option Addr, ∃ x5l : Nat, ∃ x5c : Nat, ∃ w4 : World, (Instr.makeSlice 72 (.int .i64 a_harts1) (.int .i64 a_harts1)).run Tryd.prog w2 = .ok (.slice x5 x5l x5c) w4 ∧ (∀ (b6 : Nat) (w7 : World), b6 = World.heapSize w4 → w7 = World.alloc w4 (.cells #[.slice x3 x3l x3c, .slice x5 x5l x5c, .int .i64 0, .slice none 0 0] 75) → (∃ x8 : Option Addr, ∃ x8l : Nat, ∃ x8c : Nat, World.cell? w7 ⟨b6, 0 + 1, none⟩ = some (.slice x8 x8l x8c) ∧ (∃ I18 : Nat → Int → World → Prop, (∃ m, I18 m 0 w7) ∧ ∀ (m10 : Nat) (v9 : Int) (w11 : World), I18 m10 v9 w11 → ((((v9 : Int) < ((x8l : Nat) : Int)) → (∃ x12 : Option Addr, ∃ x12l : Nat, ∃ x12c : Nat, World.cell? w11 ⟨b6, 0 + 1, none⟩ = some (.slice x12 x12l x12c) ∧ (∃ (b13 o14 : Nat), x12 = some ⟨b13, o14, none⟩ ∧ ((0 : Int) ≤ v9 ∧ v9 < ((x12l : Nat) : Int) ∧ ((World.cell? w11 ⟨b13, o14 + (v9 : Int).toNat, none⟩).isSome = true ∧ World.frozen? w11 ⟨b13, o14 + (v9 : Int).toNat, none⟩ = false ∧ ∀ w15 : World, w15 = World.setCell w11 ⟨b13, o14 + (v9 : Int).toNat, none⟩ (.bool true) → (∀ r16 : Int, r16 = IntKind.wrap .i64 (v9 + 1) → (∃ m17, m17 < m10 ∧ I18 m17 r16 w15))))))) ∧ ((¬ ((v9 : Int) < ((x8l : Nat) : Int))) → R (.returned (.tuple #[.pointer (some ⟨b6, 0, none⟩), .int .i64 0])) w11))))))) ∧ (∃ x19 : Option Addr, ∃ x19l : Nat, ∃ x19c : Nat, ∃ w18 : World, (Instr.makeSlice 72 (.int .i64 a_harts1) (.int .i64 a_harts1)).run Tryd.prog (w.drew) = .ok (.slice x19 x19l x19c) w18 ∧ (∃ x21 : Option Addr, ∃ x21l : Nat, ∃ x21c : Nat, ∃ w20 : World, (Instr.makeSlice 38 (.int .i64 a_harts1) (.int .i64 a_harts1)).run Tryd.prog w18 = .ok (.slice x21 x21l x21c) w20 ∧ (∀ (b22 : Nat) (w23 : World), b22 = World.heapSize w20 → w23 = World.alloc w20 (.cells #[.slice x21 x21l x21c, .slice x19 x19l x19c, .int .i64 0, .slice none 0 0] 75) → (∃ x24 : Option Addr, ∃ x24l : Nat, ∃ x24c : Nat, World.cell? w23 ⟨b22, 0 + 1, none⟩ = some (.slice x24 x24l x24c) ∧ (∃ I47 : Nat → Int → World → Prop, (∃ m, I47 m 0 w23) ∧ ∀ (m26 : Nat) (v25 : Int) (w27 : World), I47 m26 v25 w27 → ((((v25 : Int) < ((x24l : Nat) : Int)) → (∃ x28 : Option Addr, ∃ x28l : Nat, ∃ x28c : Nat, World.cell? w27 ⟨b22, 0 + 1, none⟩ = some (.slice x28 x28l x28c) ∧ (∃ (b29 o30 : Nat), x28 = some ⟨b29, o30, none⟩ ∧ ((0 : Int) ≤ v25 ∧ v25 < ((x28l : Nat) : Int) ∧ ((World.cell? w27 ⟨b29, o30 + (v25 : Int).toNat, none⟩).isSome = true ∧ World.frozen? w27 ⟨b29, o30 + (v25 : Int).toNat, none⟩ = false ∧ ∀ w31 : World, w31 = World.setCell w27 ⟨b29, o30 + (v25 : Int).toNat, none⟩ (.bool true) → (∀ r32 : Int, r32 = IntKind.wrap .i64 (v25 + 1) → (∃ m33, m33 < m26 ∧ I47 m33 r32 w31))))))) ∧ ((¬ ((v25 : Int) < ((x24l : Nat) : Int))) → R (.returned (.tuple #[.pointer (some ⟨b22, 0, none⟩), .int .i64 0])) w27))))))))))))

theorem vc11 {a_harts1 : Int} {w : World} {R : Ending → World → Prop} (H : Vc11 a_harts1 w R) : Calls Tryd.prog 11 #[.int .i64 a_harts1] w R := by
  unfold Vc11 at H
  refine calls_start [.int .i64 a_harts1] Tryd.func11 rfl Tryd.ntmps11 rfl ?_
  refine c_seq ?_
  intro K1 hK1
  refine c_region ?_
  refine L_val (v := .pointer none) (y_assign ev_c) ?_
  refine L_val (v := .int .i64 0) (y_assign ev_c) ?_
  refine l_nil ?_
  refine then_norm ?_
  refine hK1 _ _ ?_
  clear hK1
  refine c_seq ?_
  intro K2 hK2
  refine c_seq ?_
  intro K3 hK3
  refine c_region ?_
  refine L_val (v := .int .i64 a_harts1) (y_move (ev_tv rfl rfl)) ?_
  refine L_val (v := .bool (decide ((a_harts1 : Int) < 1))) (y_lss (ev_tv rfl rfl) ev_c) ?_
  refine L_val (v := .bool (decide ((a_harts1 : Int) < 1))) (y_move (ev_tv rfl rfl)) ?_
  rcases (Decidable.em ((a_harts1 : Int) < 1)) with hb4 | hb4
  · replace H := H.1 hb4
    have hq5 : Value.bool (decide ((a_harts1 : Int) < 1)) = Value.bool true := congrArg Value.bool (decide_eq_true hb4)
    refine G_not (b' := true) (dj := 8) rfl rfl hq5 rfl ?_
    refine G_not (b' := true) (dj := 8) rfl rfl hq5 rfl ?_
    refine L_val (v := .bool true) (y_pick_t (ev_tv rfl hq5) ev_c) ?_
    refine l_nil ?_
    refine then_norm ?_
    refine hK3 _ _ ?_
    clear hK3
    refine cond_t (ev_tv rfl rfl) ?_
    refine c_seq ?_
    intro K6 hK6
    refine c_region ?_
    refine L_val (v := .pointer none) (y_assign ev_c) ?_
    refine L_val (v := .int .i64 1) (y_assign ev_c) ?_
    refine l_nil ?_
    refine then_norm ?_
    refine hK6 _ _ ?_
    clear hK6
    refine c_ret ?_
    refine then_ret ?_
    exact body_2 rfl (ev_tv rfl rfl) (ev_tv rfl rfl) H
  · replace H := H.2 hb4
    have hq5 : Value.bool (decide ((a_harts1 : Int) < 1)) = Value.bool false := congrArg Value.bool (decide_eq_false hb4)
    refine G_val (dj := 8) rfl rfl hq5 (v := .int .i64 a_harts1) (y_move (ev_tv rfl rfl)) ?_
    refine G_val (dj := 8) rfl rfl hq5 (v := .bool (decide ((8 : Int) < a_harts1))) (y_gtr (ev_tv rfl rfl) ev_c) ?_
    refine L_val (v := .bool (decide ((8 : Int) < a_harts1))) (y_pick_f (ev_tv rfl hq5) (ev_tv rfl rfl)) ?_
    refine l_nil ?_
    refine then_norm ?_
    refine hK3 _ _ ?_
    clear hK3
    rcases (Decidable.em ((8 : Int) < a_harts1)) with hb7 | hb7
    · replace H := H.1 hb7
      have hq8 : Value.bool (decide ((8 : Int) < a_harts1)) = Value.bool true := congrArg Value.bool (decide_eq_true hb7)
      refine cond_t (ev_tv rfl hq8) ?_
      refine c_seq ?_
      intro K9 hK9
      refine c_region ?_
      refine L_val (v := .pointer none) (y_assign ev_c) ?_
      refine L_val (v := .int .i64 1) (y_assign ev_c) ?_
      refine l_nil ?_
      refine then_norm ?_
      refine hK9 _ _ ?_
      clear hK9
      refine c_ret ?_
      refine then_ret ?_
      exact body_2 rfl (ev_tv rfl rfl) (ev_tv rfl rfl) H
    · replace H := H.2 hb7
      have hq8 : Value.bool (decide ((8 : Int) < a_harts1)) = Value.bool false := congrArg Value.bool (decide_eq_false hb7)
      refine cond_f (ev_tv rfl hq8) ?_
      refine c_skip ?_
      refine then_norm ?_
      refine hK2 _ _ ?_
      clear hK2
      refine c_seq ?_
      intro K10 hK10
      refine D_start Tryd.mixed rfl [1, 3, 5] ?_
      refine start_keep fun hS => ?_
      refine D_pure (i := 0) (v := .int .i64 a_harts1) rfl (by kernel_rfl) (W_none rfl) (fun _ => y_move (ev_tv rfl rfl)) hS ?_
      intro hS
      refine D_pure (i := 2) (v := .int .i64 a_harts1) rfl (by kernel_rfl) (W_none rfl) (fun _ => y_move (ev_tv rfl rfl)) hS ?_
      intro hS
      refine D_all (rs := [1, 3]) (by kernel_rfl) rfl ?_
      refine forall_mem2 ?_ ?_
      · replace H := H.1
        obtain ⟨x3, x3l, x3c, w2, hc11, H⟩ := H
        refine O_val (i := 1) (v := .slice x3 x3l x3c) rfl (W_none rfl) (y_makeSlice (ev_tv rfl rfl) (ev_tv rfl rfl) hc11) ?_
        refine and_keep SS_nil fun hS => ?_
        refine D_only (i := 3) (by kernel_rfl) rfl ?_
        obtain ⟨x5, x5l, x5c, w4, hc12, H⟩ := H
        refine O_val (i := 3) (v := .slice x5 x5l x5c) rfl (W_none rfl) (y_makeSlice (ev_tv rfl rfl) (ev_tv rfl rfl) hc12) ?_
        refine and_keep SS_nil fun hS => ?_
        refine D_pure (i := 4) (v := .agg #[.slice x3 x3l x3c, .slice x5 x5l x5c, .int .i64 0, .slice none 0 0]) rfl (by kernel_rfl) (W_none rfl) (fun _ => y_build (parts_ev2 (ev_tv rfl rfl) (ev_tv rfl rfl)) (by kernel_rfl)) hS ?_
        intro hS
        refine D_only (i := 5) (by kernel_rfl) rfl ?_
        obtain ⟨b6, hb13⟩ : ∃ b6 : Nat, b6 = World.heapSize w4 := ⟨_, rfl⟩
        obtain ⟨w7, hw14⟩ : ∃ w7 : World, w7 = World.alloc w4 (.cells #[.slice x3 x3l x3c, .slice x5 x5l x5c, .int .i64 0, .slice none 0 0] 75) := ⟨_, rfl⟩
        replace H := H b6 w7 hb13 hw14
        refine O_val (i := 5) (v := .pointer (some ⟨b6, 0, none⟩)) rfl (W_none rfl) (y_box (ev_tv rfl rfl) rfl hb13 hw14) ?_
        refine and_keep SS_nil fun hS => ?_
        refine D_pure (i := 6) (v := .pointer (some ⟨b6, 0, none⟩)) rfl (by kernel_rfl) (W_none rfl) (fun _ => y_assign (ev_tv rfl rfl)) hS ?_
        intro hS
        refine D_done (by kernel_rfl) ?_
        refine then_norm ?_
        refine hK10 _ _ ?_
        clear hK10
        refine c_seq ?_
        intro K15 hK15
        refine c_seq ?_
        intro K16 hK16
        refine c_region ?_
        refine L_val (v := .pointer (some ⟨b6, 0, none⟩)) (y_move (ev_tv rfl rfl)) ?_
        refine L_val (v := .pointer (some ⟨b6, 0, none⟩)) (y_nilCheck (ev_tv rfl rfl)) ?_
        refine L_val (v := .pointer (some ⟨b6, 0 + 1, none⟩)) (Tryd.fa75_1 (ev_tv rfl rfl)) ?_
        obtain ⟨x8, x8l, x8c, hc17, H⟩ := H
        refine L_val (v := .slice x8 x8l x8c) (y_load Tryd.underlying72 rfl (ev_tv rfl rfl) hc17) ?_
        refine L_val (v := .int .i64 ((x8l : Nat) : Int)) (y_len Tryd.underlying72 rfl (map_ev1 (ev_tv rfl rfl))) ?_
        refine L_val (v := .int .i64 0) (y_move ev_c) ?_
        refine l_nil ?_
        refine then_norm ?_
        refine hK16 _ _ ?_
        clear hK16
        refine c_block ?_
        obtain ⟨I18, ⟨m22, HI23⟩, H⟩ := H
        refine loop_fr ([(5, 5), (23, 32)]) (fun m ff ww => ∃ (v9 : Int), ff 23 = (.int .i64 v9 : Value) ∧ I18 m v9 ww) m22 ⟨0, rfl, HI23⟩ ?_
        rintro m10 f19 w11 hag20 ⟨v9, hs24, HI21⟩
        replace H := H m10 v9 w11 HI21
        refine c_seq ?_
        intro K25 hK25
        refine c_region ?_
        refine L_val (v := .bool (decide ((v9 : Int) < ((x8l : Nat) : Int)))) (y_lss (ev_tv rfl hs24) (ev_tv rfl ((hag20 22 rfl).trans rfl))) ?_
        refine l_nil ?_
        refine then_norm ?_
        refine hK25 _ _ ?_
        clear hK25
        refine c_seq ?_
        intro K26 hK26
        rcases (Decidable.em ((v9 : Int) < ((x8l : Nat) : Int))) with hb27 | hb27
        · replace H := H.1 hb27
          have hq28 : Value.bool (decide ((v9 : Int) < ((x8l : Nat) : Int))) = Value.bool true := congrArg Value.bool (decide_eq_true hb27)
          refine cond_t (ev_tv rfl hq28) ?_
          refine c_skip ?_
          refine then_norm ?_
          refine hK26 _ _ ?_
          clear hK26
          refine c_seq ?_
          intro K29 hK29
          refine c_block ?_
          refine c_seq ?_
          intro K30 hK30
          refine c_region ?_
          refine L_val (v := .int .i64 v9) (y_move (ev_tv rfl hs24)) ?_
          refine L_val (v := .int .i64 v9) (y_assign (ev_tv rfl rfl)) ?_
          refine l_nil ?_
          refine then_norm ?_
          refine hK30 _ _ ?_
          clear hK30
          refine c_region ?_
          refine L_val (v := .pointer (some ⟨b6, 0, none⟩)) (y_move (ev_tv rfl ((hag20 4 rfl).trans rfl))) ?_
          refine L_val (v := .pointer (some ⟨b6, 0, none⟩)) (y_nilCheck (ev_tv rfl rfl)) ?_
          refine L_val (v := .pointer (some ⟨b6, 0 + 1, none⟩)) (Tryd.fa75_1 (ev_tv rfl rfl)) ?_
          obtain ⟨x12, x12l, x12c, hc31, H⟩ := H
          refine L_val (v := .slice x12 x12l x12c) (y_load Tryd.underlying72 rfl (ev_tv rfl rfl) hc31) ?_
          refine L_val (v := .int .i64 v9) (y_move (ev_tv rfl rfl)) ?_
          obtain ⟨b13, o14, rfl, H⟩ := H
          obtain ⟨hi32, hi33, H⟩ := H
          refine L_val (v := .pointer (some ⟨b13, o14 + (v9 : Int).toNat, none⟩)) (y_ix1 Tryd.underlying72 Tryd.type4 rfl (ev_tv rfl rfl) (ev_tv rfl rfl) hi32 hi33) ?_
          obtain ⟨hc34, hf35, H⟩ := H
          obtain ⟨w15, hw36⟩ : ∃ w15 : World, w15 = World.setCell w11 ⟨b13, o14 + (v9 : Int).toNat, none⟩ (.bool true) := ⟨_, rfl⟩
          replace H := H w15 hw36
          refine L_skip (y_store Tryd.type4 rfl rfl (ev_tv rfl rfl) ev_c hc34 hf35 hw36) ?_
          refine l_nil ?_
          refine block_norm ?_
          refine then_norm ?_
          refine hK29 _ _ ?_
          clear hK29
          refine c_region ?_
          obtain ⟨r16, hr37⟩ : ∃ r16 : Int, r16 = IntKind.wrap .i64 (v9 + 1) := ⟨_, rfl⟩
          replace H := H r16 hr37
          refine L_val (v := .int .i64 r16) (y_add (ev_tv rfl hs24) ev_c hr37) ?_
          refine L_val (v := .int .i64 r16) (y_move (ev_tv rfl rfl)) ?_
          refine l_nil ?_
          refine then_norm ?_
          obtain ⟨m17, hm38, H⟩ := H
          exact ⟨_, rfl, (by repeat (first | exact agree_refl | exact hag20 | refine agree_upd rfl ?_ | refine agree_via hag20 rfl ?_)), m17, hm38, _, rfl, H⟩
        · replace H := H.2 hb27
          have hq28 : Value.bool (decide ((v9 : Int) < ((x8l : Nat) : Int))) = Value.bool false := congrArg Value.bool (decide_eq_false hb27)
          refine cond_f (ev_tv rfl hq28) ?_
          refine c_exit ?_
          refine then_exit ?_
          refine then_exit ?_
          refine block_hit ?_
          refine then_norm ?_
          refine hK15 _ _ ?_
          clear hK15
          refine c_seq ?_
          intro K39 hK39
          refine c_region ?_
          refine L_val (v := .pointer (some ⟨b6, 0, none⟩)) (y_move (ev_tv rfl ((hag20 4 rfl).trans rfl))) ?_
          refine L_val (v := .pointer (some ⟨b6, 0, none⟩)) (y_assign (ev_tv rfl rfl)) ?_
          refine L_val (v := .int .i64 0) (y_assign ev_c) ?_
          refine l_nil ?_
          refine then_norm ?_
          refine hK39 _ _ ?_
          clear hK39
          refine c_ret ?_
          exact body_2 rfl (ev_tv rfl rfl) (ev_tv rfl rfl) H
      · replace H := H.2
        obtain ⟨x19, x19l, x19c, w18, hc40, H⟩ := H
        refine O_val (i := 3) (v := .slice x19 x19l x19c) rfl (W_none rfl) (y_makeSlice (ev_tv rfl rfl) (ev_tv rfl rfl) hc40) ?_
        refine and_keep SS_nil fun hS => ?_
        refine D_only (i := 1) (by kernel_rfl) rfl ?_
        obtain ⟨x21, x21l, x21c, w20, hc41, H⟩ := H
        refine O_val (i := 1) (v := .slice x21 x21l x21c) rfl (W_none rfl) (y_makeSlice (ev_tv rfl rfl) (ev_tv rfl rfl) hc41) ?_
        refine and_keep SS_nil fun hS => ?_
        refine D_pure (i := 4) (v := .agg #[.slice x21 x21l x21c, .slice x19 x19l x19c, .int .i64 0, .slice none 0 0]) rfl (by kernel_rfl) (W_none rfl) (fun _ => y_build (parts_ev2 (ev_tv rfl rfl) (ev_tv rfl rfl)) (by kernel_rfl)) hS ?_
        intro hS
        refine D_only (i := 5) (by kernel_rfl) rfl ?_
        obtain ⟨b22, hb42⟩ : ∃ b22 : Nat, b22 = World.heapSize w20 := ⟨_, rfl⟩
        obtain ⟨w23, hw43⟩ : ∃ w23 : World, w23 = World.alloc w20 (.cells #[.slice x21 x21l x21c, .slice x19 x19l x19c, .int .i64 0, .slice none 0 0] 75) := ⟨_, rfl⟩
        replace H := H b22 w23 hb42 hw43
        refine O_val (i := 5) (v := .pointer (some ⟨b22, 0, none⟩)) rfl (W_none rfl) (y_box (ev_tv rfl rfl) rfl hb42 hw43) ?_
        refine and_keep SS_nil fun hS => ?_
        refine D_pure (i := 6) (v := .pointer (some ⟨b22, 0, none⟩)) rfl (by kernel_rfl) (W_none rfl) (fun _ => y_assign (ev_tv rfl rfl)) hS ?_
        intro hS
        refine D_done (by kernel_rfl) ?_
        refine then_norm ?_
        refine hK10 _ _ ?_
        clear hK10
        refine c_seq ?_
        intro K44 hK44
        refine c_seq ?_
        intro K45 hK45
        refine c_region ?_
        refine L_val (v := .pointer (some ⟨b22, 0, none⟩)) (y_move (ev_tv rfl rfl)) ?_
        refine L_val (v := .pointer (some ⟨b22, 0, none⟩)) (y_nilCheck (ev_tv rfl rfl)) ?_
        refine L_val (v := .pointer (some ⟨b22, 0 + 1, none⟩)) (Tryd.fa75_1 (ev_tv rfl rfl)) ?_
        obtain ⟨x24, x24l, x24c, hc46, H⟩ := H
        refine L_val (v := .slice x24 x24l x24c) (y_load Tryd.underlying72 rfl (ev_tv rfl rfl) hc46) ?_
        refine L_val (v := .int .i64 ((x24l : Nat) : Int)) (y_len Tryd.underlying72 rfl (map_ev1 (ev_tv rfl rfl))) ?_
        refine L_val (v := .int .i64 0) (y_move ev_c) ?_
        refine l_nil ?_
        refine then_norm ?_
        refine hK45 _ _ ?_
        clear hK45
        refine c_block ?_
        obtain ⟨I47, ⟨m51, HI52⟩, H⟩ := H
        refine loop_fr ([(5, 5), (23, 32)]) (fun m ff ww => ∃ (v25 : Int), ff 23 = (.int .i64 v25 : Value) ∧ I47 m v25 ww) m51 ⟨0, rfl, HI52⟩ ?_
        rintro m26 f48 w27 hag49 ⟨v25, hs53, HI50⟩
        replace H := H m26 v25 w27 HI50
        refine c_seq ?_
        intro K54 hK54
        refine c_region ?_
        refine L_val (v := .bool (decide ((v25 : Int) < ((x24l : Nat) : Int)))) (y_lss (ev_tv rfl hs53) (ev_tv rfl ((hag49 22 rfl).trans rfl))) ?_
        refine l_nil ?_
        refine then_norm ?_
        refine hK54 _ _ ?_
        clear hK54
        refine c_seq ?_
        intro K55 hK55
        rcases (Decidable.em ((v25 : Int) < ((x24l : Nat) : Int))) with hb56 | hb56
        · replace H := H.1 hb56
          have hq57 : Value.bool (decide ((v25 : Int) < ((x24l : Nat) : Int))) = Value.bool true := congrArg Value.bool (decide_eq_true hb56)
          refine cond_t (ev_tv rfl hq57) ?_
          refine c_skip ?_
          refine then_norm ?_
          refine hK55 _ _ ?_
          clear hK55
          refine c_seq ?_
          intro K58 hK58
          refine c_block ?_
          refine c_seq ?_
          intro K59 hK59
          refine c_region ?_
          refine L_val (v := .int .i64 v25) (y_move (ev_tv rfl hs53)) ?_
          refine L_val (v := .int .i64 v25) (y_assign (ev_tv rfl rfl)) ?_
          refine l_nil ?_
          refine then_norm ?_
          refine hK59 _ _ ?_
          clear hK59
          refine c_region ?_
          refine L_val (v := .pointer (some ⟨b22, 0, none⟩)) (y_move (ev_tv rfl ((hag49 4 rfl).trans rfl))) ?_
          refine L_val (v := .pointer (some ⟨b22, 0, none⟩)) (y_nilCheck (ev_tv rfl rfl)) ?_
          refine L_val (v := .pointer (some ⟨b22, 0 + 1, none⟩)) (Tryd.fa75_1 (ev_tv rfl rfl)) ?_
          obtain ⟨x28, x28l, x28c, hc60, H⟩ := H
          refine L_val (v := .slice x28 x28l x28c) (y_load Tryd.underlying72 rfl (ev_tv rfl rfl) hc60) ?_
          refine L_val (v := .int .i64 v25) (y_move (ev_tv rfl rfl)) ?_
          obtain ⟨b29, o30, rfl, H⟩ := H
          obtain ⟨hi61, hi62, H⟩ := H
          refine L_val (v := .pointer (some ⟨b29, o30 + (v25 : Int).toNat, none⟩)) (y_ix1 Tryd.underlying72 Tryd.type4 rfl (ev_tv rfl rfl) (ev_tv rfl rfl) hi61 hi62) ?_
          obtain ⟨hc63, hf64, H⟩ := H
          obtain ⟨w31, hw65⟩ : ∃ w31 : World, w31 = World.setCell w27 ⟨b29, o30 + (v25 : Int).toNat, none⟩ (.bool true) := ⟨_, rfl⟩
          replace H := H w31 hw65
          refine L_skip (y_store Tryd.type4 rfl rfl (ev_tv rfl rfl) ev_c hc63 hf64 hw65) ?_
          refine l_nil ?_
          refine block_norm ?_
          refine then_norm ?_
          refine hK58 _ _ ?_
          clear hK58
          refine c_region ?_
          obtain ⟨r32, hr66⟩ : ∃ r32 : Int, r32 = IntKind.wrap .i64 (v25 + 1) := ⟨_, rfl⟩
          replace H := H r32 hr66
          refine L_val (v := .int .i64 r32) (y_add (ev_tv rfl hs53) ev_c hr66) ?_
          refine L_val (v := .int .i64 r32) (y_move (ev_tv rfl rfl)) ?_
          refine l_nil ?_
          refine then_norm ?_
          obtain ⟨m33, hm67, H⟩ := H
          exact ⟨_, rfl, (by repeat (first | exact agree_refl | exact hag49 | refine agree_upd rfl ?_ | refine agree_via hag49 rfl ?_)), m33, hm67, _, rfl, H⟩
        · replace H := H.2 hb56
          have hq57 : Value.bool (decide ((v25 : Int) < ((x24l : Nat) : Int))) = Value.bool false := congrArg Value.bool (decide_eq_false hb56)
          refine cond_f (ev_tv rfl hq57) ?_
          refine c_exit ?_
          refine then_exit ?_
          refine then_exit ?_
          refine block_hit ?_
          refine then_norm ?_
          refine hK44 _ _ ?_
          clear hK44
          refine c_seq ?_
          intro K68 hK68
          refine c_region ?_
          refine L_val (v := .pointer (some ⟨b22, 0, none⟩)) (y_move (ev_tv rfl ((hag49 4 rfl).trans rfl))) ?_
          refine L_val (v := .pointer (some ⟨b22, 0, none⟩)) (y_assign (ev_tv rfl rfl)) ?_
          refine L_val (v := .int .i64 0) (y_assign ev_c) ?_
          refine l_nil ?_
          refine then_norm ?_
          refine hK68 _ _ ?_
          clear hK68
          refine c_ret ?_
          exact body_2 rfl (ev_tv rfl rfl) (ev_tv rfl rfl) H

/-- parapet/namec.New -/
def Vc12 (a_r1 : Option Addr) (a_room2 : Int) (w : World) (R : Ending → World → Prop) : Prop :=
  (((a_r1 = none) → R (.returned (.tuple #[.pointer none, .int .i64 1])) w) ∧ ((a_r1 ≠ none) → ((((a_room2 : Int) < 1) → R (.returned (.tuple #[.pointer none, .int .i64 1])) w) ∧ ((¬ ((a_room2 : Int) < 1)) → ((((4096 : Int) < a_room2) → R (.returned (.tuple #[.pointer none, .int .i64 1])) w) ∧ ((¬ ((4096 : Int) < a_room2)) → (∀ (b3 : Nat) (w4 : World), b3 = World.heapSize w → w4 = World.alloc w (.map #[] 0) → (∀ (b5 : Nat) (w6 : World), b5 = World.heapSize w4 → w6 = World.alloc w4 (.cells #[.pointer a_r1, .int .i64 a_room2, .map (some b3), .slice none 0 0, .int .i64 0] 78) → R (.returned (.tuple #[.pointer (some ⟨b5, 0, none⟩), .int .i64 0])) w6))))))))

theorem vc12 {a_r1 : Option Addr} {a_room2 : Int} {w : World} {R : Ending → World → Prop} (H : Vc12 a_r1 a_room2 w R) : Calls Tryd.prog 12 #[.pointer a_r1, .int .i64 a_room2] w R := by
  unfold Vc12 at H
  refine calls_start [.pointer a_r1, .int .i64 a_room2] Tryd.func12 rfl Tryd.ntmps12 rfl ?_
  refine c_seq ?_
  intro K1 hK1
  refine c_region ?_
  refine L_val (v := .pointer none) (y_assign ev_c) ?_
  refine L_val (v := .int .i64 0) (y_assign ev_c) ?_
  refine l_nil ?_
  refine then_norm ?_
  refine hK1 _ _ ?_
  clear hK1
  refine c_seq ?_
  intro K2 hK2
  refine c_seq ?_
  intro K3 hK3
  refine c_region ?_
  refine L_val (v := .pointer a_r1) (y_move (ev_tv rfl rfl)) ?_
  refine L_val (v := .bool (a_r1.isNone)) (y_peq Tryd.underlying30 (ev_tv rfl rfl) ev_c) ?_
  refine L_val (v := .bool (a_r1.isNone)) (y_move (ev_tv rfl rfl)) ?_
  rcases (Classical.em (a_r1 = none)) with hb4 | hb4
  · replace H := H.1 hb4
    have hq5 : Value.bool (a_r1.isNone) = Value.bool true := congrArg Value.bool (isn_t hb4)
    refine G_not (b' := true) (dj := 8) rfl rfl hq5 rfl ?_
    refine G_not (b' := true) (dj := 8) rfl rfl hq5 rfl ?_
    refine L_val (v := .bool true) (y_pick_t (ev_tv rfl hq5) ev_c) ?_
    refine L_val (v := .bool true) (y_move (ev_tv rfl rfl)) ?_
    refine G_not (b' := true) (dj := 12) rfl rfl rfl rfl ?_
    refine G_not (b' := true) (dj := 12) rfl rfl rfl rfl ?_
    refine L_val (v := .bool true) (y_pick_t (ev_tv rfl rfl) ev_c) ?_
    refine l_nil ?_
    refine then_norm ?_
    refine hK3 _ _ ?_
    clear hK3
    refine cond_t (ev_tv rfl rfl) ?_
    refine c_seq ?_
    intro K6 hK6
    refine c_region ?_
    refine L_val (v := .pointer none) (y_assign ev_c) ?_
    refine L_val (v := .int .i64 1) (y_assign ev_c) ?_
    refine l_nil ?_
    refine then_norm ?_
    refine hK6 _ _ ?_
    clear hK6
    refine c_ret ?_
    refine then_ret ?_
    exact body_2 rfl (ev_tv rfl rfl) (ev_tv rfl rfl) H
  · replace H := H.2 hb4
    have hq5 : Value.bool (a_r1.isNone) = Value.bool false := congrArg Value.bool (isn_f hb4)
    refine G_val (dj := 8) rfl rfl hq5 (v := .int .i64 a_room2) (y_move (ev_tv rfl rfl)) ?_
    refine G_val (dj := 8) rfl rfl hq5 (v := .bool (decide ((a_room2 : Int) < 1))) (y_lss (ev_tv rfl rfl) ev_c) ?_
    refine L_val (v := .bool (decide ((a_room2 : Int) < 1))) (y_pick_f (ev_tv rfl hq5) (ev_tv rfl rfl)) ?_
    refine L_val (v := .bool (decide ((a_room2 : Int) < 1))) (y_move (ev_tv rfl rfl)) ?_
    rcases (Decidable.em ((a_room2 : Int) < 1)) with hb7 | hb7
    · replace H := H.1 hb7
      have hq8 : Value.bool (decide ((a_room2 : Int) < 1)) = Value.bool true := congrArg Value.bool (decide_eq_true hb7)
      refine G_not (b' := true) (dj := 12) rfl rfl hq8 rfl ?_
      refine G_not (b' := true) (dj := 12) rfl rfl hq8 rfl ?_
      refine L_val (v := .bool true) (y_pick_t (ev_tv rfl hq8) ev_c) ?_
      refine l_nil ?_
      refine then_norm ?_
      refine hK3 _ _ ?_
      clear hK3
      refine cond_t (ev_tv rfl rfl) ?_
      refine c_seq ?_
      intro K9 hK9
      refine c_region ?_
      refine L_val (v := .pointer none) (y_assign ev_c) ?_
      refine L_val (v := .int .i64 1) (y_assign ev_c) ?_
      refine l_nil ?_
      refine then_norm ?_
      refine hK9 _ _ ?_
      clear hK9
      refine c_ret ?_
      refine then_ret ?_
      exact body_2 rfl (ev_tv rfl rfl) (ev_tv rfl rfl) H
    · replace H := H.2 hb7
      have hq8 : Value.bool (decide ((a_room2 : Int) < 1)) = Value.bool false := congrArg Value.bool (decide_eq_false hb7)
      refine G_val (dj := 12) rfl rfl hq8 (v := .int .i64 a_room2) (y_move (ev_tv rfl rfl)) ?_
      refine G_val (dj := 12) rfl rfl hq8 (v := .bool (decide ((4096 : Int) < a_room2))) (y_gtr (ev_tv rfl rfl) ev_c) ?_
      refine L_val (v := .bool (decide ((4096 : Int) < a_room2))) (y_pick_f (ev_tv rfl hq8) (ev_tv rfl rfl)) ?_
      refine l_nil ?_
      refine then_norm ?_
      refine hK3 _ _ ?_
      clear hK3
      rcases (Decidable.em ((4096 : Int) < a_room2)) with hb10 | hb10
      · replace H := H.1 hb10
        have hq11 : Value.bool (decide ((4096 : Int) < a_room2)) = Value.bool true := congrArg Value.bool (decide_eq_true hb10)
        refine cond_t (ev_tv rfl hq11) ?_
        refine c_seq ?_
        intro K12 hK12
        refine c_region ?_
        refine L_val (v := .pointer none) (y_assign ev_c) ?_
        refine L_val (v := .int .i64 1) (y_assign ev_c) ?_
        refine l_nil ?_
        refine then_norm ?_
        refine hK12 _ _ ?_
        clear hK12
        refine c_ret ?_
        refine then_ret ?_
        exact body_2 rfl (ev_tv rfl rfl) (ev_tv rfl rfl) H
      · replace H := H.2 hb10
        have hq11 : Value.bool (decide ((4096 : Int) < a_room2)) = Value.bool false := congrArg Value.bool (decide_eq_false hb10)
        refine cond_f (ev_tv rfl hq11) ?_
        refine c_skip ?_
        refine then_norm ?_
        refine hK2 _ _ ?_
        clear hK2
        refine c_seq ?_
        intro K13 hK13
        refine c_region ?_
        refine L_val (v := .pointer a_r1) (y_move (ev_tv rfl rfl)) ?_
        refine L_val (v := .int .i64 a_room2) (y_move (ev_tv rfl rfl)) ?_
        obtain ⟨b3, hb14⟩ : ∃ b3 : Nat, b3 = World.heapSize w := ⟨_, rfl⟩
        obtain ⟨w4, hw15⟩ : ∃ w4 : World, w4 = World.alloc w (.map #[] 0) := ⟨_, rfl⟩
        replace H := H b3 w4 hb14 hw15
        refine L_val (v := .map (some b3)) (y_makeMap hb14 hw15) ?_
        refine L_val (v := .agg #[.pointer a_r1, .int .i64 a_room2, .map (some b3), .slice none 0 0, .int .i64 0]) (y_build (parts_ev3 (ev_tv rfl rfl) (ev_tv rfl rfl) (ev_tv rfl rfl)) (by kernel_rfl)) ?_
        obtain ⟨b5, hb16⟩ : ∃ b5 : Nat, b5 = World.heapSize w4 := ⟨_, rfl⟩
        obtain ⟨w6, hw17⟩ : ∃ w6 : World, w6 = World.alloc w4 (.cells #[.pointer a_r1, .int .i64 a_room2, .map (some b3), .slice none 0 0, .int .i64 0] 78) := ⟨_, rfl⟩
        replace H := H b5 w6 hb16 hw17
        refine L_val (v := .pointer (some ⟨b5, 0, none⟩)) (y_box (ev_tv rfl rfl) rfl hb16 hw17) ?_
        refine L_val (v := .pointer (some ⟨b5, 0, none⟩)) (y_assign (ev_tv rfl rfl)) ?_
        refine L_val (v := .int .i64 0) (y_assign ev_c) ?_
        refine l_nil ?_
        refine then_norm ?_
        refine hK13 _ _ ?_
        clear hK13
        refine c_ret ?_
        exact body_2 rfl (ev_tv rfl rfl) (ev_tv rfl rfl) H

/-- (parapet/namec.Cache).Look -/
def Vc13 (a_c1 : Option Addr) (a_k2 : Int) (a_k3 : ByteArray) (w : World) (R : Ending → World → Prop) : Prop :=
  (∀ (b4 : Nat) (w5 : World), b4 = World.heapSize w → w5 = World.alloc w (.cells #[.int .i64 a_k2, .string a_k3] 42) → (Calls Tryd.prog 34 #[.pointer a_c1] w5 fun e w7 => ∃ x6 : Bool, e = .returned (.bool x6) ∧ (((x6 = true) → (∃ (b9 o10 : Nat), a_c1 = some ⟨b9, o10, none⟩ ∧ (∃ x11 : Option Nat, World.cell? (w7.drew) ⟨b9, o10 + 2, none⟩ = some (.map x11) ∧ (∃ x12 : Int, ∃ x13 : ByteArray, CellsAt (w7.drew) ⟨b4, 0, none⟩ [.int .i64 x12, .string x13] ∧ (∃ x14 : Int, ∃ x15 : Int, ∃ ok16 : Bool, (Instr.lookup 76 (.map x11) (.agg #[.int .i64 x12, .string x13]) true).run Tryd.prog (w7.drew) = .ok (.tuple #[.agg #[.int .i64 x14, .int .i64 x15], .bool ok16]) (w7.drew) ∧ (∀ (b17 : Nat) (w18 : World), b17 = World.heapSize (w7.drew) → w18 = World.alloc (w7.drew) (.cells #[.int .i64 0, .int .i64 0] 80) → ((Instr.lookup 76 (.map x11) (.agg #[.int .i64 x12, .string x13]) true).run Tryd.prog w18 = .ok (.tuple #[.agg #[.int .i64 x14, .int .i64 x15], .bool ok16]) w18 ∧ CellsAt w18 ⟨b4, 0, none⟩ [.int .i64 x12, .string x13] ∧ World.cell? w18 ⟨b9, o10 + 2, none⟩ = some (.map x11) ∧ ((∀ j, j < 2 → (World.cell? w18 (Addr.add ⟨b17, 0, none⟩ j)).isSome = true ∧ World.frozen? w18 (Addr.add ⟨b17, 0, none⟩ j) = false) ∧ ∀ w19 : World, w19 = putCells w18 ⟨b17, 0, none⟩ [.int .i64 x14, .int .i64 x15] 0 → (∃ x20 : Int, World.cell? w19 ⟨b17, 0, none⟩ = some (.int .i64 x20) ∧ R (.returned (.tuple #[.int .i64 x20, .bool ok16])) w19))))))))) ∧ ((x6 = false) → R (.returned (.tuple #[.int .i64 0, .bool false])) w7))))

theorem vc13 {a_c1 : Option Addr} {a_k2 : Int} {a_k3 : ByteArray} {w : World} {R : Ending → World → Prop} (H : Vc13 a_c1 a_k2 a_k3 w R) : Calls Tryd.prog 13 #[.pointer a_c1, .agg #[.int .i64 a_k2, .string a_k3]] w R := by
  unfold Vc13 at H
  refine calls_start [.pointer a_c1, .agg #[.int .i64 a_k2, .string a_k3]] Tryd.func13 rfl Tryd.ntmps13 rfl ?_
  refine c_seq ?_
  intro K1 hK1
  refine c_region ?_
  obtain ⟨b4, hb2⟩ : ∃ b4 : Nat, b4 = World.heapSize w := ⟨_, rfl⟩
  obtain ⟨w5, hw3⟩ : ∃ w5 : World, w5 = World.alloc w (.cells #[.int .i64 a_k2, .string a_k3] 42) := ⟨_, rfl⟩
  replace H := H b4 w5 hb2 hw3
  refine L_val (v := .pointer (some ⟨b4, 0, none⟩)) (y_box (ev_tv rfl rfl) rfl hb2 hw3) ?_
  refine L_val (v := .int .i64 0) (y_assign ev_c) ?_
  refine L_val (v := .bool false) (y_assign ev_c) ?_
  refine l_nil ?_
  refine then_norm ?_
  refine hK1 _ _ ?_
  clear hK1
  refine c_seq ?_
  intro K4 hK4
  refine c_seq ?_
  intro K5 hK5
  refine c_region ?_
  refine L_val (v := .pointer a_c1) (y_move (ev_tv rfl rfl)) ?_
  refine L_call (y_call Tryd.call34 (map_ev1 (ev_tv rfl rfl)) ev_f) (Calls.mono H ?_)
  clear H
  rintro _ w7 ⟨x6, rfl, H⟩
  refine ⟨_, rfl, ?_⟩
  rcases Bool.eq_false_or_eq_true x6 with hb6 | hb6
  · replace H := H.1 hb6
    have hq7 : Value.bool (x6) = Value.bool true := congrArg Value.bool hb6
    refine L_val (v := .bool false) (y_not_t (ev_tv rfl hq7)) ?_
    refine l_nil ?_
    refine then_norm ?_
    refine hK5 _ _ ?_
    clear hK5
    refine cond_f (ev_tv rfl rfl) ?_
    refine c_skip ?_
    refine then_norm ?_
    refine hK4 _ _ ?_
    clear hK4
    refine c_seq ?_
    intro K8 hK8
    refine D_start Tryd.mixed rfl [9, 10] ?_
    refine start_keep fun hS => ?_
    refine D_pure (i := 0) (v := .pointer a_c1) rfl (by kernel_rfl) (W_none rfl) (fun _ => y_move (ev_tv rfl rfl)) hS ?_
    intro hS
    obtain ⟨b9, o10, rfl, H⟩ := H
    refine D_pure (i := 1) (v := .pointer (some ⟨b9, o10, none⟩)) rfl (by kernel_rfl) (W_none rfl) (fun _ => y_nilCheck (ev_tv rfl rfl)) hS ?_
    intro hS
    refine D_pure (i := 2) (v := .pointer (some ⟨b9, o10 + 2, none⟩)) rfl (by kernel_rfl) (W_none rfl) (fun _ => Tryd.fa78_2 (ev_tv rfl rfl)) hS ?_
    intro hS
    obtain ⟨x11, hc9, H⟩ := H
    refine D_read (i := 3) (v := .map x11) rfl (by kernel_rfl) (W_none rfl) (fun wx => World.cell? wx ⟨b9, o10 + 2, none⟩ = some (.map x11)) hc9 (fun _ hcx => y_load Tryd.underlying76 rfl (ev_tv rfl rfl) hcx) hS ?_
    intro hS
    obtain ⟨x12, x13, hc10, H⟩ := H
    refine D_read (i := 4) (v := .agg #[.int .i64 x12, .string x13]) rfl (by kernel_rfl) (W_none rfl) (fun wx => CellsAt wx ⟨b4, 0, none⟩ [.int .i64 x12, .string x13]) hc10 (fun _ hcx => y_loadAgg Tryd.underlying42 rfl Tryd.type42 rfl (ev_tv rfl rfl) hcx) hS ?_
    intro hS
    obtain ⟨x14, x15, ok16, hc11, H⟩ := H
    refine D_read (i := 5) (v := .tuple #[.agg #[.int .i64 x14, .int .i64 x15], .bool ok16]) rfl (by kernel_rfl) (W_none rfl) (fun wx => (Instr.lookup 76 (.map x11) (.agg #[.int .i64 x12, .string x13]) true).run Tryd.prog wx = .ok (.tuple #[.agg #[.int .i64 x14, .int .i64 x15], .bool ok16]) wx) hc11 (fun _ hcx => y_lookup (ev_tv rfl rfl) (ev_tv rfl rfl) hcx) hS ?_
    intro hS
    refine D_pure (i := 6) (v := .tuple #[.agg #[.int .i64 x14, .int .i64 x15], .bool ok16]) rfl (by kernel_rfl) (W_none rfl) (fun _ => y_move (ev_tv rfl rfl)) hS ?_
    intro hS
    refine D_pure (i := 7) (v := .agg #[.int .i64 x14, .int .i64 x15]) rfl (by kernel_rfl) (W_none rfl) (fun _ => y_extract (ev_tv rfl rfl) rfl) hS ?_
    intro hS
    refine D_pure (i := 8) (v := .bool ok16) rfl (by kernel_rfl) (W_none rfl) (fun _ => y_extract (ev_tv rfl rfl) rfl) hS ?_
    intro hS
    refine D_only (i := 9) (by kernel_rfl) rfl ?_
    obtain ⟨b17, hb12⟩ : ∃ b17 : Nat, b17 = World.heapSize (w7.drew) := ⟨_, rfl⟩
    obtain ⟨w18, hw13⟩ : ∃ w18 : World, w18 = World.alloc (w7.drew) (.cells #[.int .i64 0, .int .i64 0] 80) := ⟨_, rfl⟩
    replace H := H b17 w18 hb12 hw13
    refine O_val (i := 9) (v := .pointer (some ⟨b17, 0, none⟩)) rfl (W_none rfl) (y_alloc Tryd.type80 rfl rfl hb12 hw13) ?_
    obtain ⟨hs19, hs20, hs21, H⟩ := H
    refine and_keep (SS_on hs19 (SS_on hs20 (SS_on hs21 SS_nil))) fun hS => ?_
    refine D_only (i := 10) (by kernel_rfl) rfl ?_
    obtain ⟨hc14, H⟩ := H
    obtain ⟨w19, hw16⟩ : ∃ w19 : World, w19 = putCells w18 ⟨b17, 0, none⟩ [.int .i64 x14, .int .i64 x15] 0 := ⟨_, rfl⟩
    replace H := H w19 hw16
    refine O_skip (i := 10) rfl (W_none rfl) (y_storeAgg Tryd.type80 rfl (by intro v hv; simp only [List.mem_cons, List.not_mem_nil, or_false] at hv; rcases hv with rfl | rfl <;> rfl) (ev_tv rfl rfl) (ev_tv rfl rfl) hc14 hw16) ?_
    refine and_keep (SS_off (by kernel_rfl) (SS_off (by kernel_rfl) (SS_off (by kernel_rfl) SS_nil))) fun hS => ?_
    refine D_pure (i := 11) (v := .bool ok16) rfl (by kernel_rfl) (W_none rfl) (fun _ => y_assign (ev_tv rfl rfl)) hS ?_
    intro hS
    refine D_done (by kernel_rfl) ?_
    refine then_norm ?_
    refine hK8 _ _ ?_
    clear hK8
    refine c_seq ?_
    intro K17 hK17
    refine c_region ?_
    refine L_val (v := .pointer (some ⟨b17, 0, none⟩)) (Tryd.fa80_0 (ev_tv rfl rfl)) ?_
    obtain ⟨x20, hc18, H⟩ := H
    refine L_val (v := .int .i64 x20) (y_load Tryd.underlying3 rfl (ev_tv rfl rfl) hc18) ?_
    refine L_val (v := .bool ok16) (y_move (ev_tv rfl rfl)) ?_
    refine L_val (v := .int .i64 x20) (y_assign (ev_tv rfl rfl)) ?_
    refine L_val (v := .bool ok16) (y_assign (ev_tv rfl rfl)) ?_
    refine l_nil ?_
    refine then_norm ?_
    refine hK17 _ _ ?_
    clear hK17
    refine c_ret ?_
    exact body_2 rfl (ev_tv rfl rfl) (ev_tv rfl rfl) H
  · replace H := H.2 hb6
    have hq7 : Value.bool (x6) = Value.bool false := congrArg Value.bool hb6
    refine L_val (v := .bool true) (y_not_f (ev_tv rfl hq7)) ?_
    refine l_nil ?_
    refine then_norm ?_
    refine hK5 _ _ ?_
    clear hK5
    refine cond_t (ev_tv rfl rfl) ?_
    refine c_seq ?_
    intro K22 hK22
    refine c_region ?_
    refine L_val (v := .int .i64 0) (y_assign ev_c) ?_
    refine L_val (v := .bool false) (y_assign ev_c) ?_
    refine l_nil ?_
    refine then_norm ?_
    refine hK22 _ _ ?_
    clear hK22
    refine c_ret ?_
    refine then_ret ?_
    exact body_2 rfl (ev_tv rfl rfl) (ev_tv rfl rfl) H

end Go.Proofs.YtimokldcmpbjcaaDoor
