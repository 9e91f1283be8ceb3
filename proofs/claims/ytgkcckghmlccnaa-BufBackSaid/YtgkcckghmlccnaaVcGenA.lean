/- For each Go function: what must be shown of it, and that this is enough. Printed by a program over the seat's translation. -/
import Derived.Test.YtgkcckghmlccnaaChecked
import Derived.Test.YtgkcckghmlccnaaVcOps
namespace Go.Proofs.Ytgkcckghmlccnaa
open Go Go.Vc
set_option maxRecDepth 100000
set_option linter.unusedVariables false
set_option maxHeartbeats 2000000
theorem Try.mixed : Try.prog.follows .mixedOrders = true := by kernel_rfl


theorem Try.fa32_0 {w : World} {ρ : Operand → Value} {dst : Option Nat} {ty : Nat} {pos : String} {aft : Array Edge} {g : Option (Nat × Bool)} {x : Operand} {b o : Nat} (hx : ρ x = .pointer (some ⟨b, o, none⟩)) : (execOp ρ ⟨dst, .fieldAddr 32 x 0, ty, pos, aft, g⟩).run Try.prog w = .ok (.value (.pointer (some ⟨b, o, none⟩))) w :=
  y_fa (off := 0) (ft := 3) Try.underlying32 (by kernel_rfl) Try.type3 (sz := 0) (by kernel_rfl) hx
theorem Try.fa32_1 {w : World} {ρ : Operand → Value} {dst : Option Nat} {ty : Nat} {pos : String} {aft : Array Edge} {g : Option (Nat × Bool)} {x : Operand} {b o : Nat} (hx : ρ x = .pointer (some ⟨b, o, none⟩)) : (execOp ρ ⟨dst, .fieldAddr 32 x 1, ty, pos, aft, g⟩).run Try.prog w = .ok (.value (.pointer (some ⟨b, o + 1, none⟩))) w :=
  y_fa (off := 1) (ft := 3) Try.underlying32 (by kernel_rfl) Try.type3 (sz := 0) (by kernel_rfl) hx
theorem Try.fa32_2 {w : World} {ρ : Operand → Value} {dst : Option Nat} {ty : Nat} {pos : String} {aft : Array Edge} {g : Option (Nat × Bool)} {x : Operand} {b o : Nat} (hx : ρ x = .pointer (some ⟨b, o, none⟩)) : (execOp ρ ⟨dst, .fieldAddr 32 x 2, ty, pos, aft, g⟩).run Try.prog w = .ok (.value (.pointer (some ⟨b, o + 2, none⟩))) w :=
  y_fa (off := 2) (ft := 5) Try.underlying32 (by kernel_rfl) Try.type5 (sz := 0) (by kernel_rfl) hx
theorem Try.fa56_2 {w : World} {ρ : Operand → Value} {dst : Option Nat} {ty : Nat} {pos : String} {aft : Array Edge} {g : Option (Nat × Bool)} {x : Operand} {b o : Nat} (hx : ρ x = .pointer (some ⟨b, o, none⟩)) : (execOp ρ ⟨dst, .fieldAddr 56 x 2, ty, pos, aft, g⟩).run Try.prog w = .ok (.value (.pointer (some ⟨b, o + 2, none⟩))) w :=
  y_fa (off := 2) (ft := 52) Try.underlying56 (by kernel_rfl) Try.type52 (sz := 0) (by kernel_rfl) hx
theorem Try.fa56_4 {w : World} {ρ : Operand → Value} {dst : Option Nat} {ty : Nat} {pos : String} {aft : Array Edge} {g : Option (Nat × Bool)} {x : Operand} {b o : Nat} (hx : ρ x = .pointer (some ⟨b, o, none⟩)) : (execOp ρ ⟨dst, .fieldAddr 56 x 4, ty, pos, aft, g⟩).run Try.prog w = .ok (.value (.pointer (some ⟨b, o + 4, none⟩))) w :=
  y_fa (off := 4) (ft := 54) Try.underlying56 (by kernel_rfl) Try.type54 (sz := 3) (by kernel_rfl) hx
theorem Try.fa54_0 {w : World} {ρ : Operand → Value} {dst : Option Nat} {ty : Nat} {pos : String} {aft : Array Edge} {g : Option (Nat × Bool)} {x : Operand} {b o : Nat} (hx : ρ x = .pointer (some ⟨b, o, none⟩)) : (execOp ρ ⟨dst, .fieldAddr 54 x 0, ty, pos, aft, g⟩).run Try.prog w = .ok (.value (.pointer (some ⟨b, o, none⟩))) w :=
  y_fa (off := 0) (ft := 3) Try.underlying54 (by kernel_rfl) Try.type3 (sz := 0) (by kernel_rfl) hx
theorem Try.fa62_0 {w : World} {ρ : Operand → Value} {dst : Option Nat} {ty : Nat} {pos : String} {aft : Array Edge} {g : Option (Nat × Bool)} {x : Operand} {b o : Nat} (hx : ρ x = .pointer (some ⟨b, o, none⟩)) : (execOp ρ ⟨dst, .fieldAddr 62 x 0, ty, pos, aft, g⟩).run Try.prog w = .ok (.value (.pointer (some ⟨b, o, none⟩))) w :=
  y_fa (off := 0) (ft := 33) Try.underlying62 (by kernel_rfl) Try.type33 (sz := 0) (by kernel_rfl) hx
theorem Try.fa56_0 {w : World} {ρ : Operand → Value} {dst : Option Nat} {ty : Nat} {pos : String} {aft : Array Edge} {g : Option (Nat × Bool)} {x : Operand} {b o : Nat} (hx : ρ x = .pointer (some ⟨b, o, none⟩)) : (execOp ρ ⟨dst, .fieldAddr 56 x 0, ty, pos, aft, g⟩).run Try.prog w = .ok (.value (.pointer (some ⟨b, o, none⟩))) w :=
  y_fa (off := 0) (ft := 23) Try.underlying56 (by kernel_rfl) Try.type23 (sz := 0) (by kernel_rfl) hx
theorem Try.fa54_1 {w : World} {ρ : Operand → Value} {dst : Option Nat} {ty : Nat} {pos : String} {aft : Array Edge} {g : Option (Nat × Bool)} {x : Operand} {b o : Nat} (hx : ρ x = .pointer (some ⟨b, o, none⟩)) : (execOp ρ ⟨dst, .fieldAddr 54 x 1, ty, pos, aft, g⟩).run Try.prog w = .ok (.value (.pointer (some ⟨b, o + 1, none⟩))) w :=
  y_fa (off := 1) (ft := 3) Try.underlying54 (by kernel_rfl) Try.type3 (sz := 0) (by kernel_rfl) hx
theorem Try.fa62_1 {w : World} {ρ : Operand → Value} {dst : Option Nat} {ty : Nat} {pos : String} {aft : Array Edge} {g : Option (Nat × Bool)} {x : Operand} {b o : Nat} (hx : ρ x = .pointer (some ⟨b, o, none⟩)) : (execOp ρ ⟨dst, .fieldAddr 62 x 1, ty, pos, aft, g⟩).run Try.prog w = .ok (.value (.pointer (some ⟨b, o + 1, none⟩))) w :=
  y_fa (off := 1) (ft := 4) Try.underlying62 (by kernel_rfl) Try.type4 (sz := 0) (by kernel_rfl) hx
theorem Try.fa54_3 {w : World} {ρ : Operand → Value} {dst : Option Nat} {ty : Nat} {pos : String} {aft : Array Edge} {g : Option (Nat × Bool)} {x : Operand} {b o : Nat} (hx : ρ x = .pointer (some ⟨b, o, none⟩)) : (execOp ρ ⟨dst, .fieldAddr 54 x 3, ty, pos, aft, g⟩).run Try.prog w = .ok (.value (.pointer (some ⟨b, o + 3, none⟩))) w :=
  y_fa (off := 3) (ft := 3) Try.underlying54 (by kernel_rfl) Try.type3 (sz := 0) (by kernel_rfl) hx
theorem Try.fa56_3 {w : World} {ρ : Operand → Value} {dst : Option Nat} {ty : Nat} {pos : String} {aft : Array Edge} {g : Option (Nat × Bool)} {x : Operand} {b o : Nat} (hx : ρ x = .pointer (some ⟨b, o, none⟩)) : (execOp ρ ⟨dst, .fieldAddr 56 x 3, ty, pos, aft, g⟩).run Try.prog w = .ok (.value (.pointer (some ⟨b, o + 3, none⟩))) w :=
  y_fa (off := 3) (ft := 43) Try.underlying56 (by kernel_rfl) Try.type43 (sz := 0) (by kernel_rfl) hx
theorem Try.fa51_1 {w : World} {ρ : Operand → Value} {dst : Option Nat} {ty : Nat} {pos : String} {aft : Array Edge} {g : Option (Nat × Bool)} {x : Operand} {b o : Nat} (hx : ρ x = .pointer (some ⟨b, o, none⟩)) : (execOp ρ ⟨dst, .fieldAddr 51 x 1, ty, pos, aft, g⟩).run Try.prog w = .ok (.value (.pointer (some ⟨b, o + 1, none⟩))) w :=
  y_fa (off := 1) (ft := 49) Try.underlying51 (by kernel_rfl) Try.type49 (sz := 0) (by kernel_rfl) hx
theorem Try.fa66_0 {w : World} {ρ : Operand → Value} {dst : Option Nat} {ty : Nat} {pos : String} {aft : Array Edge} {g : Option (Nat × Bool)} {x : Operand} {b o : Nat} (hx : ρ x = .pointer (some ⟨b, o, none⟩)) : (execOp ρ ⟨dst, .fieldAddr 66 x 0, ty, pos, aft, g⟩).run Try.prog w = .ok (.value (.pointer (some ⟨b, o, none⟩))) w :=
  y_fa (off := 0) (ft := 3) Try.underlying66 (by kernel_rfl) Try.type3 (sz := 0) (by kernel_rfl) hx
theorem Try.fa66_1 {w : World} {ρ : Operand → Value} {dst : Option Nat} {ty : Nat} {pos : String} {aft : Array Edge} {g : Option (Nat × Bool)} {x : Operand} {b o : Nat} (hx : ρ x = .pointer (some ⟨b, o, none⟩)) : (execOp ρ ⟨dst, .fieldAddr 66 x 1, ty, pos, aft, g⟩).run Try.prog w = .ok (.value (.pointer (some ⟨b, o + 1, none⟩))) w :=
  y_fa (off := 1) (ft := 33) Try.underlying66 (by kernel_rfl) Try.type33 (sz := 0) (by kernel_rfl) hx
theorem Try.fa51_7 {w : World} {ρ : Operand → Value} {dst : Option Nat} {ty : Nat} {pos : String} {aft : Array Edge} {g : Option (Nat × Bool)} {x : Operand} {b o : Nat} (hx : ρ x = .pointer (some ⟨b, o, none⟩)) : (execOp ρ ⟨dst, .fieldAddr 51 x 7, ty, pos, aft, g⟩).run Try.prog w = .ok (.value (.pointer (some ⟨b, o + 7, none⟩))) w :=
  y_fa (off := 7) (ft := 3) Try.underlying51 (by kernel_rfl) Try.type3 (sz := 0) (by kernel_rfl) hx
theorem Try.fa70_0 {w : World} {ρ : Operand → Value} {dst : Option Nat} {ty : Nat} {pos : String} {aft : Array Edge} {g : Option (Nat × Bool)} {x : Operand} {b o : Nat} (hx : ρ x = .pointer (some ⟨b, o, none⟩)) : (execOp ρ ⟨dst, .fieldAddr 70 x 0, ty, pos, aft, g⟩).run Try.prog w = .ok (.value (.pointer (some ⟨b, o, none⟩))) w :=
  y_fa (off := 0) (ft := 3) Try.underlying70 (by kernel_rfl) Try.type3 (sz := 0) (by kernel_rfl) hx
theorem Try.fa70_1 {w : World} {ρ : Operand → Value} {dst : Option Nat} {ty : Nat} {pos : String} {aft : Array Edge} {g : Option (Nat × Bool)} {x : Operand} {b o : Nat} (hx : ρ x = .pointer (some ⟨b, o, none⟩)) : (execOp ρ ⟨dst, .fieldAddr 70 x 1, ty, pos, aft, g⟩).run Try.prog w = .ok (.value (.pointer (some ⟨b, o + 1, none⟩))) w :=
  y_fa (off := 1) (ft := 3) Try.underlying70 (by kernel_rfl) Try.type3 (sz := 0) (by kernel_rfl) hx
theorem Try.fa51_3 {w : World} {ρ : Operand → Value} {dst : Option Nat} {ty : Nat} {pos : String} {aft : Array Edge} {g : Option (Nat × Bool)} {x : Operand} {b o : Nat} (hx : ρ x = .pointer (some ⟨b, o, none⟩)) : (execOp ρ ⟨dst, .fieldAddr 51 x 3, ty, pos, aft, g⟩).run Try.prog w = .ok (.value (.pointer (some ⟨b, o + 3, none⟩))) w :=
  y_fa (off := 3) (ft := 4) Try.underlying51 (by kernel_rfl) Try.type4 (sz := 0) (by kernel_rfl) hx
theorem Try.fa51_4 {w : World} {ρ : Operand → Value} {dst : Option Nat} {ty : Nat} {pos : String} {aft : Array Edge} {g : Option (Nat × Bool)} {x : Operand} {b o : Nat} (hx : ρ x = .pointer (some ⟨b, o, none⟩)) : (execOp ρ ⟨dst, .fieldAddr 51 x 4, ty, pos, aft, g⟩).run Try.prog w = .ok (.value (.pointer (some ⟨b, o + 4, none⟩))) w :=
  y_fa (off := 4) (ft := 3) Try.underlying51 (by kernel_rfl) Try.type3 (sz := 0) (by kernel_rfl) hx
theorem Try.fa51_5 {w : World} {ρ : Operand → Value} {dst : Option Nat} {ty : Nat} {pos : String} {aft : Array Edge} {g : Option (Nat × Bool)} {x : Operand} {b o : Nat} (hx : ρ x = .pointer (some ⟨b, o, none⟩)) : (execOp ρ ⟨dst, .fieldAddr 51 x 5, ty, pos, aft, g⟩).run Try.prog w = .ok (.value (.pointer (some ⟨b, o + 5, none⟩))) w :=
  y_fa (off := 5) (ft := 3) Try.underlying51 (by kernel_rfl) Try.type3 (sz := 0) (by kernel_rfl) hx
theorem Try.fa51_2 {w : World} {ρ : Operand → Value} {dst : Option Nat} {ty : Nat} {pos : String} {aft : Array Edge} {g : Option (Nat × Bool)} {x : Operand} {b o : Nat} (hx : ρ x = .pointer (some ⟨b, o, none⟩)) : (execOp ρ ⟨dst, .fieldAddr 51 x 2, ty, pos, aft, g⟩).run Try.prog w = .ok (.value (.pointer (some ⟨b, o + 2, none⟩))) w :=
  y_fa (off := 2) (ft := 48) Try.underlying51 (by kernel_rfl) Try.type48 (sz := 0) (by kernel_rfl) hx
theorem Try.fa51_0 {w : World} {ρ : Operand → Value} {dst : Option Nat} {ty : Nat} {pos : String} {aft : Array Edge} {g : Option (Nat × Bool)} {x : Operand} {b o : Nat} (hx : ρ x = .pointer (some ⟨b, o, none⟩)) : (execOp ρ ⟨dst, .fieldAddr 51 x 0, ty, pos, aft, g⟩).run Try.prog w = .ok (.value (.pointer (some ⟨b, o, none⟩))) w :=
  y_fa (off := 0) (ft := 33) Try.underlying51 (by kernel_rfl) Try.type33 (sz := 0) (by kernel_rfl) hx
theorem Try.fa56_1 {w : World} {ρ : Operand → Value} {dst : Option Nat} {ty : Nat} {pos : String} {aft : Array Edge} {g : Option (Nat × Bool)} {x : Operand} {b o : Nat} (hx : ρ x = .pointer (some ⟨b, o, none⟩)) : (execOp ρ ⟨dst, .fieldAddr 56 x 1, ty, pos, aft, g⟩).run Try.prog w = .ok (.value (.pointer (some ⟨b, o + 1, none⟩))) w :=
  y_fa (off := 1) (ft := 3) Try.underlying56 (by kernel_rfl) Try.type3 (sz := 0) (by kernel_rfl) hx
theorem Try.fa54_2 {w : World} {ρ : Operand → Value} {dst : Option Nat} {ty : Nat} {pos : String} {aft : Array Edge} {g : Option (Nat × Bool)} {x : Operand} {b o : Nat} (hx : ρ x = .pointer (some ⟨b, o, none⟩)) : (execOp ρ ⟨dst, .fieldAddr 54 x 2, ty, pos, aft, g⟩).run Try.prog w = .ok (.value (.pointer (some ⟨b, o + 2, none⟩))) w :=
  y_fa (off := 2) (ft := 3) Try.underlying54 (by kernel_rfl) Try.type3 (sz := 0) (by kernel_rfl) hx
theorem Try.fa51_6 {w : World} {ρ : Operand → Value} {dst : Option Nat} {ty : Nat} {pos : String} {aft : Array Edge} {g : Option (Nat × Bool)} {x : Operand} {b o : Nat} (hx : ρ x = .pointer (some ⟨b, o, none⟩)) : (execOp ρ ⟨dst, .fieldAddr 51 x 6, ty, pos, aft, g⟩).run Try.prog w = .ok (.value (.pointer (some ⟨b, o + 6, none⟩))) w :=
  y_fa (off := 6) (ft := 3) Try.underlying51 (by kernel_rfl) Try.type3 (sz := 0) (by kernel_rfl) hx

/-- parapet/parapetlaw15.BufSame -/
def Vc3 (a_room1 : Int) (a_other2 : Int) (a_l3 : Option Addr) (a_l3l : Nat) (a_l3c : Nat) (w : World) (R : Ending → World → Prop) : Prop :=
  (Calls Try.prog 6 #[.int .i64 12] w fun e w6 => ∃ x4 : Option Addr, ∃ x5 : Int, e = .returned (.tuple #[.pointer x4, .int .i64 x5]) ∧ (Calls Try.prog 6 #[.int .i64 12] w6 fun e w10 => ∃ x8 : Option Addr, ∃ x9 : Int, e = .returned (.tuple #[.pointer x8, .int .i64 x9]) ∧ (((¬ ((x5 : Int) = 0)) → R (.returned (.bool false)) w10) ∧ (((x5 : Int) = 0) → (((¬ ((x9 : Int) = 0)) → R (.returned (.bool false)) w10) ∧ (((x9 : Int) = 0) → (((x4 = none) → R (.returned (.bool false)) w10) ∧ ((x4 ≠ none) → (((x8 = none) → R (.returned (.bool false)) w10) ∧ ((x8 ≠ none) → (Calls Try.prog 7 #[] w10 fun e w13 => ∃ x12 : Bool, e = .returned (.bool x12) ∧ (((x12 = true) → (Calls Try.prog 8 #[.pointer x4, .int .i64 a_room1] w13 fun e w17 => ∃ x15 : Option Addr, ∃ x16 : Int, e = .returned (.tuple #[.pointer x15, .int .i64 x16]) ∧ (Calls Try.prog 8 #[.pointer x8, .int .i64 a_other2] w17 fun e w21 => ∃ x19 : Option Addr, ∃ x20 : Int, e = .returned (.tuple #[.pointer x19, .int .i64 x20]) ∧ (∃ J23 : Bool → World → Prop, (∀ (v23 : Bool) (w24 : World), J23 v23 w24 → (((v23 = true) → (((((x15.isNone) == (!decide ((x16 : Int) = 0))) = true) → R (.returned (.bool ((x19.isNone) == (!decide ((x20 : Int) = 0))))) w24) ∧ ((((x15.isNone) == (!decide ((x16 : Int) = 0))) = false) → R (.returned (.bool false)) w24))) ∧ ((v23 = false) → (∃ I37 : Nat → Int → World → Prop, (∃ m, I37 m 0 w24) ∧ ∀ (m26 : Nat) (v25 : Int) (w27 : World), I37 m26 v25 w27 → ((((v25 : Int) < ((a_l3l : Nat) : Int)) → (∃ (b28 o29 : Nat), a_l3 = some ⟨b28, o29, none⟩ ∧ ((0 : Int) ≤ v25 ∧ v25 < ((a_l3l : Nat) : Int) ∧ (∃ x30 : Int, ∃ x31 : Int, ∃ x32 : Int, ∃ x33 : Int, CellsAt w27 ⟨b28, o29 + (v25 : Int).toNat * 4, none⟩ [.int .i64 x30, .int .i64 x31, .int .u8 x32, .int .i64 x33] ∧ (∀ (b34 : Nat) (w35 : World), b34 = World.heapSize w27 → w35 = World.alloc w27 (.cells #[.int .i64 0, .int .i64 0, .int .u8 0, .int .i64 0] 32) → ((∀ j, j < 4 → (World.cell? w35 (Addr.add ⟨b34, 0, none⟩ j)).isSome = true ∧ World.frozen? w35 (Addr.add ⟨b34, 0, none⟩ j) = false) ∧ ∀ w36 : World, w36 = putCells w35 ⟨b34, 0, none⟩ [.int .i64 x30, .int .i64 x31, .int .u8 x32, .int .i64 x33] 0 → (∃ x37 : Int, World.cell? w36 ⟨b34, 0, none⟩ = some (.int .i64 x37) ∧ ((((x37 : Int) = 1) → (∃ x38 : Int, World.cell? w36 ⟨b34, 0 + 1, none⟩ = some (.int .i64 x38) ∧ (Calls Try.prog 9 #[.pointer x15, .int .i64 x38] w36 fun e w41 => ∃ x39 : Option Addr, ∃ x39l : Nat, ∃ x39c : Nat, ∃ x40 : Int, e = .returned (.tuple #[.slice x39 x39l x39c, .int .i64 x40]) ∧ (∃ x43 : Int, World.cell? w41 ⟨b34, 0 + 1, none⟩ = some (.int .i64 x43) ∧ (Calls Try.prog 9 #[.pointer x19, .int .i64 x43] w41 fun e w46 => ∃ x44 : Option Addr, ∃ x44l : Nat, ∃ x44c : Nat, ∃ x45 : Int, e = .returned (.tuple #[.slice x44 x44l x44c, .int .i64 x45]) ∧ ((((x40 : Int) = 150) → R (.returned (.bool true)) w46) ∧ ((¬ ((x40 : Int) = 150)) → ((((x45 : Int) = 150) → R (.returned (.bool true)) w46) ∧ ((¬ ((x45 : Int) = 150)) → (((¬ ((x40 : Int) = x45)) → R (.returned (.bool false)) w46) ∧ (((x40 : Int) = x45) → (Calls Try.prog 10 #[.slice x39 x39l x39c, .slice x44 x44l x44c] w46 fun e w49 => ∃ x48 : Bool, e = .returned (.bool x48) ∧ (((x48 = true) → (∀ r51 : Int, r51 = IntKind.wrap .i64 (v25 + 1) → (∃ m52, m52 < m26 ∧ I37 m52 r51 w49))) ∧ ((x48 = false) → R (.returned (.bool false)) w49)))))))))))))) ∧ ((¬ ((x37 : Int) = 1)) → ((((x37 : Int) = 2) → (∃ x53 : Int, World.cell? (w36.drew) ⟨b34, 0 + 1, none⟩ = some (.int .i64 x53) ∧ (∃ x54 : Int, World.cell? (w36.drew) ⟨b34, 0 + 2, none⟩ = some (.int .u8 x54) ∧ (∃ x55 : Int, World.cell? (w36.drew) ⟨b34, 0 + 1, none⟩ = some (.int .i64 x55) ∧ (∃ x56 : Int, World.cell? (w36.drew) ⟨b34, 0 + 2, none⟩ = some (.int .u8 x56) ∧ (Calls Try.prog 12 #[.int .u8 x54, .int .i64 0] (w36.drew) fun e w58 => ∃ x57 : Option Addr, ∃ x57l : Nat, ∃ x57c : Nat, e = .returned (.slice x57 x57l x57c) ∧ (World.cell? w58 ⟨b34, 0 + 2, none⟩ = some (.int .u8 x56) ∧ World.cell? w58 ⟨b34, 0 + 1, none⟩ = some (.int .i64 x55) ∧ World.cell? w58 ⟨b34, 0 + 1, none⟩ = some (.int .i64 x53) ∧ (Calls Try.prog 11 #[.pointer x15, .int .i64 x53, .slice x57 x57l x57c] w58 fun e w60 => ∃ x59 : Int, e = .returned (.int .i64 x59) ∧ (World.cell? w60 ⟨b34, 0 + 2, none⟩ = some (.int .u8 x56) ∧ World.cell? w60 ⟨b34, 0 + 1, none⟩ = some (.int .i64 x55) ∧ (Calls Try.prog 12 #[.int .u8 x56, .int .i64 0] w60 fun e w62 => ∃ x61 : Option Addr, ∃ x61l : Nat, ∃ x61c : Nat, e = .returned (.slice x61 x61l x61c) ∧ (World.cell? w62 ⟨b34, 0 + 1, none⟩ = some (.int .i64 x55) ∧ (Calls Try.prog 11 #[.pointer x19, .int .i64 x55, .slice x61 x61l x61c] w62 fun e w64 => ∃ x63 : Int, e = .returned (.int .i64 x63) ∧ ((((x59 : Int) = 150) → R (.returned (.bool true)) w64) ∧ ((¬ ((x59 : Int) = 150)) → ((((x63 : Int) = 150) → R (.returned (.bool true)) w64) ∧ ((¬ ((x63 : Int) = 150)) → (((¬ ((x59 : Int) = x63)) → R (.returned (.bool false)) w64) ∧ (((x59 : Int) = x63) → (∀ r65 : Int, r65 = IntKind.wrap .i64 (v25 + 1) → (∃ m66, m66 < m26 ∧ I37 m66 r65 w64)))))))))))))))))))) ∧ ((¬ ((x37 : Int) = 2)) → ((((x37 : Int) = 3) → (∃ x67 : Int, World.cell? w36 ⟨b34, 0 + 1, none⟩ = some (.int .i64 x67) ∧ (Calls Try.prog 13 #[.pointer x15, .int .i64 x67] w36 fun e w70 => ∃ x68 : Bool, ∃ x69 : Int, e = .returned (.tuple #[.bool x68, .int .i64 x69]) ∧ (∀ r72 : Int, r72 = IntKind.wrap .i64 (v25 + 1) → (∃ m73, m73 < m26 ∧ I37 m73 r72 w70))))) ∧ ((¬ ((x37 : Int) = 3)) → ((((x37 : Int) = 4) → (Calls Try.prog 14 #[.pointer x19] w36 fun e w75 => ∃ x74 : Int, e = .returned (.int .i64 x74) ∧ (∀ r77 : Int, r77 = IntKind.wrap .i64 (v25 + 1) → (∃ m78, m78 < m26 ∧ I37 m78 r77 w75)))) ∧ ((¬ ((x37 : Int) = 4)) → (∀ r79 : Int, r79 = IntKind.wrap .i64 (v25 + 1) → (∃ m80, m80 < m26 ∧ I37 m80 r79 w36))))))))))))))))) ∧ ((¬ ((v25 : Int) < ((a_l3l : Nat) : Int))) → R (.returned (.bool true)) w27)))))) ∧ (((¬ ((x16 : Int) = 0)) → J23 true w21) ∧ (((x16 : Int) = 0) → (((¬ ((x20 : Int) = 0)) → J23 true w21) ∧ (((x20 : Int) = 0) → (((x15 = none) → J23 true w21) ∧ ((x15 ≠ none) → J23 (x19.isNone) w21)))))))))) ∧ ((x12 = false) → R (.returned (.bool false)) w13)))))))))))))

theorem vc3 {a_room1 : Int} {a_other2 : Int} {a_l3 : Option Addr} {a_l3l : Nat} {a_l3c : Nat} {w : World} {R : Ending → World → Prop} (H : Vc3 a_room1 a_other2 a_l3 a_l3l a_l3c w R) : Calls Try.prog 3 #[.int .i64 a_room1, .int .i64 a_other2, .slice a_l3 a_l3l a_l3c] w R := by
  unfold Vc3 at H
  refine calls_start [.int .i64 a_room1, .int .i64 a_other2, .slice a_l3 a_l3l a_l3c] Try.func3 rfl Try.ntmps3 rfl ?_
  refine c_seq ?_
  intro K1 hK1
  refine c_region ?_
  refine L_val (v := .bool false) (y_assign ev_c) ?_
  refine l_nil ?_
  refine then_norm ?_
  refine hK1 _ _ ?_
  clear hK1
  refine c_seq ?_
  intro K2 hK2
  refine c_region ?_
  refine L_call (y_call Try.call6 (map_ev1 ev_c) ev_f) (Calls.mono H ?_)
  clear H
  rintro _ w6 ⟨x4, x5, rfl, H⟩
  refine ⟨_, rfl, ?_⟩
  refine L_val (v := .tuple #[.pointer x4, .int .i64 x5]) (y_move (ev_tv rfl rfl)) ?_
  refine L_val (v := .pointer x4) (y_extract (ev_tv rfl rfl) rfl) ?_
  refine L_val (v := .int .i64 x5) (y_extract (ev_tv rfl rfl) rfl) ?_
  refine L_val (v := .pointer x4) (y_assign (ev_tv rfl rfl)) ?_
  refine L_val (v := .int .i64 x5) (y_assign (ev_tv rfl rfl)) ?_
  refine l_nil ?_
  refine then_norm ?_
  refine hK2 _ _ ?_
  clear hK2
  refine c_seq ?_
  intro K3 hK3
  refine c_region ?_
  refine L_call (y_call Try.call6 (map_ev1 ev_c) ev_f) (Calls.mono H ?_)
  clear H
  rintro _ w10 ⟨x8, x9, rfl, H⟩
  refine ⟨_, rfl, ?_⟩
  refine L_val (v := .tuple #[.pointer x8, .int .i64 x9]) (y_move (ev_tv rfl rfl)) ?_
  refine L_val (v := .pointer x8) (y_extract (ev_tv rfl rfl) rfl) ?_
  refine L_val (v := .int .i64 x9) (y_extract (ev_tv rfl rfl) rfl) ?_
  refine L_val (v := .pointer x8) (y_assign (ev_tv rfl rfl)) ?_
  refine L_val (v := .int .i64 x9) (y_assign (ev_tv rfl rfl)) ?_
  refine l_nil ?_
  refine then_norm ?_
  refine hK3 _ _ ?_
  clear hK3
  refine c_seq ?_
  intro K4 hK4
  refine c_seq ?_
  intro K5 hK5
  refine c_region ?_
  refine L_val (v := .int .i64 x5) (y_move (ev_tv rfl rfl)) ?_
  refine L_val (v := .bool (!decide ((x5 : Int) = 0))) (y_ine (ev_tv rfl rfl) ev_c) ?_
  refine L_val (v := .bool (!decide ((x5 : Int) = 0))) (y_move (ev_tv rfl rfl)) ?_
  rcases (Decidable.em ((x5 : Int) = 0)).symm with hb6 | hb6
  · replace H := H.1 hb6
    have hq7 : Value.bool (!decide ((x5 : Int) = 0)) = Value.bool true := congrArg Value.bool (ndec_t hb6)
    refine G_not (b' := true) (dj := 33) rfl rfl hq7 rfl ?_
    refine G_not (b' := true) (dj := 33) rfl rfl hq7 rfl ?_
    refine L_val (v := .bool true) (y_pick_t (ev_tv rfl hq7) ev_c) ?_
    refine L_val (v := .bool true) (y_move (ev_tv rfl rfl)) ?_
    refine G_not (b' := true) (dj := 37) rfl rfl rfl rfl ?_
    refine G_not (b' := true) (dj := 37) rfl rfl rfl rfl ?_
    refine L_val (v := .bool true) (y_pick_t (ev_tv rfl rfl) ev_c) ?_
    refine L_val (v := .bool true) (y_move (ev_tv rfl rfl)) ?_
    refine G_not (b' := true) (dj := 41) rfl rfl rfl rfl ?_
    refine G_not (b' := true) (dj := 41) rfl rfl rfl rfl ?_
    refine L_val (v := .bool true) (y_pick_t (ev_tv rfl rfl) ev_c) ?_
    refine L_val (v := .bool true) (y_move (ev_tv rfl rfl)) ?_
    refine G_not (b' := true) (dj := 45) rfl rfl rfl rfl ?_
    refine G_not (b' := true) (dj := 45) rfl rfl rfl rfl ?_
    refine L_val (v := .bool true) (y_pick_t (ev_tv rfl rfl) ev_c) ?_
    refine l_nil ?_
    refine then_norm ?_
    refine hK5 _ _ ?_
    clear hK5
    refine cond_t (ev_tv rfl rfl) ?_
    refine c_seq ?_
    intro K8 hK8
    refine c_region ?_
    refine L_val (v := .bool false) (y_assign ev_c) ?_
    refine l_nil ?_
    refine then_norm ?_
    refine hK8 _ _ ?_
    clear hK8
    refine c_ret ?_
    refine then_ret ?_
    exact body_1 rfl (ev_tv rfl rfl) H
  · replace H := H.2 hb6
    have hq7 : Value.bool (!decide ((x5 : Int) = 0)) = Value.bool false := congrArg Value.bool (ndec_f hb6)
    refine G_val (dj := 33) rfl rfl hq7 (v := .int .i64 x9) (y_move (ev_tv rfl rfl)) ?_
    refine G_val (dj := 33) rfl rfl hq7 (v := .bool (!decide ((x9 : Int) = 0))) (y_ine (ev_tv rfl rfl) ev_c) ?_
    refine L_val (v := .bool (!decide ((x9 : Int) = 0))) (y_pick_f (ev_tv rfl hq7) (ev_tv rfl rfl)) ?_
    refine L_val (v := .bool (!decide ((x9 : Int) = 0))) (y_move (ev_tv rfl rfl)) ?_
    rcases (Decidable.em ((x9 : Int) = 0)).symm with hb9 | hb9
    · replace H := H.1 hb9
      have hq10 : Value.bool (!decide ((x9 : Int) = 0)) = Value.bool true := congrArg Value.bool (ndec_t hb9)
      refine G_not (b' := true) (dj := 37) rfl rfl hq10 rfl ?_
      refine G_not (b' := true) (dj := 37) rfl rfl hq10 rfl ?_
      refine L_val (v := .bool true) (y_pick_t (ev_tv rfl hq10) ev_c) ?_
      refine L_val (v := .bool true) (y_move (ev_tv rfl rfl)) ?_
      refine G_not (b' := true) (dj := 41) rfl rfl rfl rfl ?_
      refine G_not (b' := true) (dj := 41) rfl rfl rfl rfl ?_
      refine L_val (v := .bool true) (y_pick_t (ev_tv rfl rfl) ev_c) ?_
      refine L_val (v := .bool true) (y_move (ev_tv rfl rfl)) ?_
      refine G_not (b' := true) (dj := 45) rfl rfl rfl rfl ?_
      refine G_not (b' := true) (dj := 45) rfl rfl rfl rfl ?_
      refine L_val (v := .bool true) (y_pick_t (ev_tv rfl rfl) ev_c) ?_
      refine l_nil ?_
      refine then_norm ?_
      refine hK5 _ _ ?_
      clear hK5
      refine cond_t (ev_tv rfl rfl) ?_
      refine c_seq ?_
      intro K11 hK11
      refine c_region ?_
      refine L_val (v := .bool false) (y_assign ev_c) ?_
      refine l_nil ?_
      refine then_norm ?_
      refine hK11 _ _ ?_
      clear hK11
      refine c_ret ?_
      refine then_ret ?_
      exact body_1 rfl (ev_tv rfl rfl) H
    · replace H := H.2 hb9
      have hq10 : Value.bool (!decide ((x9 : Int) = 0)) = Value.bool false := congrArg Value.bool (ndec_f hb9)
      refine G_val (dj := 37) rfl rfl hq10 (v := .pointer x4) (y_move (ev_tv rfl rfl)) ?_
      refine G_val (dj := 37) rfl rfl hq10 (v := .bool (x4.isNone)) (y_peq Try.underlying23 (ev_tv rfl rfl) ev_c) ?_
      refine L_val (v := .bool (x4.isNone)) (y_pick_f (ev_tv rfl hq10) (ev_tv rfl rfl)) ?_
      refine L_val (v := .bool (x4.isNone)) (y_move (ev_tv rfl rfl)) ?_
      rcases (Classical.em (x4 = none)) with hb12 | hb12
      · replace H := H.1 hb12
        have hq13 : Value.bool (x4.isNone) = Value.bool true := congrArg Value.bool (isn_t hb12)
        refine G_not (b' := true) (dj := 41) rfl rfl hq13 rfl ?_
        refine G_not (b' := true) (dj := 41) rfl rfl hq13 rfl ?_
        refine L_val (v := .bool true) (y_pick_t (ev_tv rfl hq13) ev_c) ?_
        refine L_val (v := .bool true) (y_move (ev_tv rfl rfl)) ?_
        refine G_not (b' := true) (dj := 45) rfl rfl rfl rfl ?_
        refine G_not (b' := true) (dj := 45) rfl rfl rfl rfl ?_
        refine L_val (v := .bool true) (y_pick_t (ev_tv rfl rfl) ev_c) ?_
        refine l_nil ?_
        refine then_norm ?_
        refine hK5 _ _ ?_
        clear hK5
        refine cond_t (ev_tv rfl rfl) ?_
        refine c_seq ?_
        intro K14 hK14
        refine c_region ?_
        refine L_val (v := .bool false) (y_assign ev_c) ?_
        refine l_nil ?_
        refine then_norm ?_
        refine hK14 _ _ ?_
        clear hK14
        refine c_ret ?_
        refine then_ret ?_
        exact body_1 rfl (ev_tv rfl rfl) H
      · replace H := H.2 hb12
        have hq13 : Value.bool (x4.isNone) = Value.bool false := congrArg Value.bool (isn_f hb12)
        refine G_val (dj := 41) rfl rfl hq13 (v := .pointer x8) (y_move (ev_tv rfl rfl)) ?_
        refine G_val (dj := 41) rfl rfl hq13 (v := .bool (x8.isNone)) (y_peq Try.underlying23 (ev_tv rfl rfl) ev_c) ?_
        refine L_val (v := .bool (x8.isNone)) (y_pick_f (ev_tv rfl hq13) (ev_tv rfl rfl)) ?_
        refine L_val (v := .bool (x8.isNone)) (y_move (ev_tv rfl rfl)) ?_
        rcases (Classical.em (x8 = none)) with hb15 | hb15
        · replace H := H.1 hb15
          have hq16 : Value.bool (x8.isNone) = Value.bool true := congrArg Value.bool (isn_t hb15)
          refine G_not (b' := true) (dj := 45) rfl rfl hq16 rfl ?_
          refine G_not (b' := true) (dj := 45) rfl rfl hq16 rfl ?_
          refine L_val (v := .bool true) (y_pick_t (ev_tv rfl hq16) ev_c) ?_
          refine l_nil ?_
          refine then_norm ?_
          refine hK5 _ _ ?_
          clear hK5
          refine cond_t (ev_tv rfl rfl) ?_
          refine c_seq ?_
          intro K17 hK17
          refine c_region ?_
          refine L_val (v := .bool false) (y_assign ev_c) ?_
          refine l_nil ?_
          refine then_norm ?_
          refine hK17 _ _ ?_
          clear hK17
          refine c_ret ?_
          refine then_ret ?_
          exact body_1 rfl (ev_tv rfl rfl) H
        · replace H := H.2 hb15
          have hq16 : Value.bool (x8.isNone) = Value.bool false := congrArg Value.bool (isn_f hb15)
          refine G_call (dj := 45) rfl rfl hq16 (y_call Try.call7 map_ev0 ev_f) (Calls.mono H ?_)
          clear H
          rintro _ w13 ⟨x12, rfl, H⟩
          refine ⟨_, rfl, ?_⟩
          rcases Bool.eq_false_or_eq_true x12 with hb18 | hb18
          · replace H := H.1 hb18
            have hq19 : Value.bool (x12) = Value.bool true := congrArg Value.bool hb18
            refine G_val (dj := 45) rfl rfl hq16 (v := .bool false) (y_not_t (ev_tv rfl hq19)) ?_
            refine L_val (v := .bool false) (y_pick_f (ev_tv rfl hq16) (ev_tv rfl rfl)) ?_
            refine l_nil ?_
            refine then_norm ?_
            refine hK5 _ _ ?_
            clear hK5
            refine cond_f (ev_tv rfl rfl) ?_
            refine c_skip ?_
            refine then_norm ?_
            refine hK4 _ _ ?_
            clear hK4
            refine c_seq ?_
            intro K20 hK20
            refine c_region ?_
            refine L_val (v := .pointer x4) (y_move (ev_tv rfl rfl)) ?_
            refine L_val (v := .int .i64 a_room1) (y_move (ev_tv rfl rfl)) ?_
            refine L_call (y_call Try.call8 (map_ev2 (ev_tv rfl rfl) (ev_tv rfl rfl)) ev_f) (Calls.mono H ?_)
            clear H
            rintro _ w17 ⟨x15, x16, rfl, H⟩
            refine ⟨_, rfl, ?_⟩
            refine L_val (v := .tuple #[.pointer x15, .int .i64 x16]) (y_move (ev_tv rfl rfl)) ?_
            refine L_val (v := .pointer x15) (y_extract (ev_tv rfl rfl) rfl) ?_
            refine L_val (v := .int .i64 x16) (y_extract (ev_tv rfl rfl) rfl) ?_
            refine L_val (v := .pointer x15) (y_assign (ev_tv rfl rfl)) ?_
            refine L_val (v := .int .i64 x16) (y_assign (ev_tv rfl rfl)) ?_
            refine l_nil ?_
            refine then_norm ?_
            refine hK20 _ _ ?_
            clear hK20
            refine c_seq ?_
            intro K21 hK21
            refine c_region ?_
            refine L_val (v := .pointer x8) (y_move (ev_tv rfl rfl)) ?_
            refine L_val (v := .int .i64 a_other2) (y_move (ev_tv rfl rfl)) ?_
            refine L_call (y_call Try.call8 (map_ev2 (ev_tv rfl rfl) (ev_tv rfl rfl)) ev_f) (Calls.mono H ?_)
            clear H
            rintro _ w21 ⟨x19, x20, rfl, H⟩
            refine ⟨_, rfl, ?_⟩
            refine L_val (v := .tuple #[.pointer x19, .int .i64 x20]) (y_move (ev_tv rfl rfl)) ?_
            refine L_val (v := .pointer x19) (y_extract (ev_tv rfl rfl) rfl) ?_
            refine L_val (v := .int .i64 x20) (y_extract (ev_tv rfl rfl) rfl) ?_
            refine L_val (v := .pointer x19) (y_assign (ev_tv rfl rfl)) ?_
            refine L_val (v := .int .i64 x20) (y_assign (ev_tv rfl rfl)) ?_
            refine l_nil ?_
            refine then_norm ?_
            refine hK21 _ _ ?_
            clear hK21
            refine c_seq ?_
            intro K22 hK22
            obtain ⟨J23, hJ24, H⟩ := H
            refine c_seqJ [(61, 74)] (fun ff ww => ∃ (v23 : Bool), ff 74 = (.bool v23 : Value) ∧ J23 v23 ww) ?_ ?_
            · clear hJ24
              intro K28 hK28
              refine c_region ?_
              refine L_val (v := .int .i64 x16) (y_move (ev_tv rfl rfl)) ?_
              refine L_val (v := .bool (!decide ((x16 : Int) = 0))) (y_ine (ev_tv rfl rfl) ev_c) ?_
              refine L_val (v := .bool (!decide ((x16 : Int) = 0))) (y_move (ev_tv rfl rfl)) ?_
              rcases (Decidable.em ((x16 : Int) = 0)).symm with hb126 | hb126
              · replace H := H.1 hb126
                have hq127 : Value.bool (!decide ((x16 : Int) = 0)) = Value.bool true := congrArg Value.bool (ndec_t hb126)
                refine G_not (b' := true) (dj := 63) rfl rfl hq127 rfl ?_
                refine G_not (b' := true) (dj := 63) rfl rfl hq127 rfl ?_
                refine L_val (v := .bool true) (y_pick_t (ev_tv rfl hq127) ev_c) ?_
                refine L_val (v := .bool true) (y_move (ev_tv rfl rfl)) ?_
                refine G_not (b' := true) (dj := 67) rfl rfl rfl rfl ?_
                refine G_not (b' := true) (dj := 67) rfl rfl rfl rfl ?_
                refine L_val (v := .bool true) (y_pick_t (ev_tv rfl rfl) ev_c) ?_
                refine L_val (v := .bool true) (y_move (ev_tv rfl rfl)) ?_
                refine G_not (b' := true) (dj := 71) rfl rfl rfl rfl ?_
                refine G_not (b' := true) (dj := 71) rfl rfl rfl rfl ?_
                refine L_val (v := .bool true) (y_pick_t (ev_tv rfl rfl) ev_c) ?_
                refine l_nil ?_
                refine then_norm ?_
                exact hK28 _ _ (by repeat (first | exact agree_refl | refine agree_upd rfl ?_)) ⟨_, rfl, H⟩
              · replace H := H.2 hb126
                have hq127 : Value.bool (!decide ((x16 : Int) = 0)) = Value.bool false := congrArg Value.bool (ndec_f hb126)
                refine G_val (dj := 63) rfl rfl hq127 (v := .int .i64 x20) (y_move (ev_tv rfl rfl)) ?_
                refine G_val (dj := 63) rfl rfl hq127 (v := .bool (!decide ((x20 : Int) = 0))) (y_ine (ev_tv rfl rfl) ev_c) ?_
                refine L_val (v := .bool (!decide ((x20 : Int) = 0))) (y_pick_f (ev_tv rfl hq127) (ev_tv rfl rfl)) ?_
                refine L_val (v := .bool (!decide ((x20 : Int) = 0))) (y_move (ev_tv rfl rfl)) ?_
                rcases (Decidable.em ((x20 : Int) = 0)).symm with hb128 | hb128
                · replace H := H.1 hb128
                  have hq129 : Value.bool (!decide ((x20 : Int) = 0)) = Value.bool true := congrArg Value.bool (ndec_t hb128)
                  refine G_not (b' := true) (dj := 67) rfl rfl hq129 rfl ?_
                  refine G_not (b' := true) (dj := 67) rfl rfl hq129 rfl ?_
                  refine L_val (v := .bool true) (y_pick_t (ev_tv rfl hq129) ev_c) ?_
                  refine L_val (v := .bool true) (y_move (ev_tv rfl rfl)) ?_
                  refine G_not (b' := true) (dj := 71) rfl rfl rfl rfl ?_
                  refine G_not (b' := true) (dj := 71) rfl rfl rfl rfl ?_
                  refine L_val (v := .bool true) (y_pick_t (ev_tv rfl rfl) ev_c) ?_
                  refine l_nil ?_
                  refine then_norm ?_
                  exact hK28 _ _ (by repeat (first | exact agree_refl | refine agree_upd rfl ?_)) ⟨_, rfl, H⟩
                · replace H := H.2 hb128
                  have hq129 : Value.bool (!decide ((x20 : Int) = 0)) = Value.bool false := congrArg Value.bool (ndec_f hb128)
                  refine G_val (dj := 67) rfl rfl hq129 (v := .pointer x15) (y_move (ev_tv rfl rfl)) ?_
                  refine G_val (dj := 67) rfl rfl hq129 (v := .bool (x15.isNone)) (y_peq Try.underlying28 (ev_tv rfl rfl) ev_c) ?_
                  refine L_val (v := .bool (x15.isNone)) (y_pick_f (ev_tv rfl hq129) (ev_tv rfl rfl)) ?_
                  refine L_val (v := .bool (x15.isNone)) (y_move (ev_tv rfl rfl)) ?_
                  rcases (Classical.em (x15 = none)) with hb130 | hb130
                  · replace H := H.1 hb130
                    have hq131 : Value.bool (x15.isNone) = Value.bool true := congrArg Value.bool (isn_t hb130)
                    refine G_not (b' := true) (dj := 71) rfl rfl hq131 rfl ?_
                    refine G_not (b' := true) (dj := 71) rfl rfl hq131 rfl ?_
                    refine L_val (v := .bool true) (y_pick_t (ev_tv rfl hq131) ev_c) ?_
                    refine l_nil ?_
                    refine then_norm ?_
                    exact hK28 _ _ (by repeat (first | exact agree_refl | refine agree_upd rfl ?_)) ⟨_, rfl, H⟩
                  · replace H := H.2 hb130
                    have hq131 : Value.bool (x15.isNone) = Value.bool false := congrArg Value.bool (isn_f hb130)
                    refine G_val (dj := 71) rfl rfl hq131 (v := .pointer x19) (y_move (ev_tv rfl rfl)) ?_
                    refine G_val (dj := 71) rfl rfl hq131 (v := .bool (x19.isNone)) (y_peq Try.underlying28 (ev_tv rfl rfl) ev_c) ?_
                    refine L_val (v := .bool (x19.isNone)) (y_pick_f (ev_tv rfl hq131) (ev_tv rfl rfl)) ?_
                    refine l_nil ?_
                    refine then_norm ?_
                    exact hK28 _ _ (by repeat (first | exact agree_refl | refine agree_upd rfl ?_)) ⟨_, rfl, H⟩
            · clear H
              rintro f25 w24 hag26 ⟨v23, hs29, HJ27⟩
              have H := hJ24 v23 w24 HJ27
              clear hJ24
              rcases Bool.eq_false_or_eq_true v23 with hb30 | hb30
              · replace H := H.1 hb30
                have hq31 : Value.bool (v23) = Value.bool true := congrArg Value.bool hb30
                refine cond_t (ev_tv rfl (hs29.trans hq31)) ?_
                refine c_seq ?_
                intro K32 hK32
                refine c_region ?_
                refine L_val (v := .pointer x15) (y_move (ev_tv rfl ((hag26 11 rfl).trans rfl))) ?_
                refine L_val (v := .bool (x15.isNone)) (y_peq Try.underlying28 (ev_tv rfl rfl) ev_c) ?_
                refine L_val (v := .int .i64 x16) (y_move (ev_tv rfl ((hag26 12 rfl).trans rfl))) ?_
                refine L_val (v := .bool (!decide ((x16 : Int) = 0))) (y_ine (ev_tv rfl rfl) ev_c) ?_
                refine L_val (v := .bool ((x15.isNone) == (!decide ((x16 : Int) = 0)))) (y_beq Try.underlying4 (ev_tv rfl rfl) (ev_tv rfl rfl)) ?_
                refine L_val (v := .bool ((x15.isNone) == (!decide ((x16 : Int) = 0)))) (y_move (ev_tv rfl rfl)) ?_
                rcases Bool.eq_false_or_eq_true ((x15.isNone) == (!decide ((x16 : Int) = 0))) with hb33 | hb33
                · replace H := H.1 hb33
                  have hq34 : Value.bool ((x15.isNone) == (!decide ((x16 : Int) = 0))) = Value.bool true := congrArg Value.bool hb33
                  refine G_val (dj := 80) rfl rfl hq34 (v := .pointer x19) (y_move (ev_tv rfl ((hag26 13 rfl).trans rfl))) ?_
                  refine G_val (dj := 80) rfl rfl hq34 (v := .bool (x19.isNone)) (y_peq Try.underlying28 (ev_tv rfl rfl) ev_c) ?_
                  refine G_val (dj := 80) rfl rfl hq34 (v := .int .i64 x20) (y_move (ev_tv rfl ((hag26 14 rfl).trans rfl))) ?_
                  refine G_val (dj := 80) rfl rfl hq34 (v := .bool (!decide ((x20 : Int) = 0))) (y_ine (ev_tv rfl rfl) ev_c) ?_
                  refine G_val (dj := 80) rfl rfl hq34 (v := .bool ((x19.isNone) == (!decide ((x20 : Int) = 0)))) (y_beq Try.underlying4 (ev_tv rfl rfl) (ev_tv rfl rfl)) ?_
                  refine L_val (v := .bool ((x19.isNone) == (!decide ((x20 : Int) = 0)))) (y_pick_t (ev_tv rfl hq34) (ev_tv rfl rfl)) ?_
                  refine L_val (v := .bool ((x19.isNone) == (!decide ((x20 : Int) = 0)))) (y_assign (ev_tv rfl rfl)) ?_
                  refine l_nil ?_
                  refine then_norm ?_
                  refine hK32 _ _ ?_
                  clear hK32
                  refine c_ret ?_
                  refine then_ret ?_
                  exact body_1 rfl (ev_tv rfl rfl) H
                · replace H := H.2 hb33
                  have hq34 : Value.bool ((x15.isNone) == (!decide ((x16 : Int) = 0))) = Value.bool false := congrArg Value.bool hb33
                  refine G_not (b' := false) (dj := 80) rfl rfl hq34 rfl ?_
                  refine G_not (b' := false) (dj := 80) rfl rfl hq34 rfl ?_
                  refine G_not (b' := false) (dj := 80) rfl rfl hq34 rfl ?_
                  refine G_not (b' := false) (dj := 80) rfl rfl hq34 rfl ?_
                  refine G_not (b' := false) (dj := 80) rfl rfl hq34 rfl ?_
                  refine L_val (v := .bool false) (y_pick_f (ev_tv rfl hq34) ev_c) ?_
                  refine L_val (v := .bool false) (y_assign (ev_tv rfl rfl)) ?_
                  refine l_nil ?_
                  refine then_norm ?_
                  refine hK32 _ _ ?_
                  clear hK32
                  refine c_ret ?_
                  refine then_ret ?_
                  exact body_1 rfl (ev_tv rfl rfl) H
              · replace H := H.2 hb30
                have hq31 : Value.bool (v23) = Value.bool false := congrArg Value.bool hb30
                refine cond_f (ev_tv rfl (hs29.trans hq31)) ?_
                refine c_skip ?_
                refine then_norm ?_
                refine hK22 _ _ ?_
                clear hK22
                refine c_seq ?_
                intro K35 hK35
                refine c_seq ?_
                intro K36 hK36
                refine c_region ?_
                refine L_val (v := .int .i64 0) (y_assign ev_c) ?_
                refine l_nil ?_
                refine then_norm ?_
                refine hK36 _ _ ?_
                clear hK36
                refine c_block ?_
                obtain ⟨I37, ⟨m41, HI42⟩, H⟩ := H
                refine loop_fr ([(6, 6), (15, 22), (87, 164)]) (fun m ff ww => ∃ (v25 : Int), ff 15 = (.int .i64 v25 : Value) ∧ I37 m v25 ww) m41 ⟨0, rfl, HI42⟩ ?_
                rintro m26 f38 w27 hag39 ⟨v25, hs43, HI40⟩
                replace H := H m26 v25 w27 HI40
                refine c_seq ?_
                intro K44 hK44
                refine c_seq ?_
                intro K45 hK45
                refine c_region ?_
                refine L_val (v := .int .i64 v25) (y_move (ev_tv rfl hs43)) ?_
                refine L_val (v := .slice a_l3 a_l3l a_l3c) (y_move (ev_tv rfl ((hag39 2 rfl).trans ((hag26 2 rfl).trans rfl)))) ?_
                refine L_val (v := .int .i64 ((a_l3l : Nat) : Int)) (y_len Try.underlying22 rfl (map_ev1 (ev_tv rfl rfl))) ?_
                refine L_val (v := .bool (decide ((v25 : Int) < ((a_l3l : Nat) : Int)))) (y_lss (ev_tv rfl rfl) (ev_tv rfl rfl)) ?_
                refine l_nil ?_
                refine then_norm ?_
                refine hK45 _ _ ?_
                clear hK45
                rcases (Decidable.em ((v25 : Int) < ((a_l3l : Nat) : Int))) with hb46 | hb46
                · replace H := H.1 hb46
                  have hq47 : Value.bool (decide ((v25 : Int) < ((a_l3l : Nat) : Int))) = Value.bool true := congrArg Value.bool (decide_eq_true hb46)
                  refine cond_t (ev_tv rfl hq47) ?_
                  refine c_skip ?_
                  refine then_norm ?_
                  refine hK44 _ _ ?_
                  clear hK44
                  refine c_seq ?_
                  intro K48 hK48
                  refine c_block ?_
                  refine c_seq ?_
                  intro K49 hK49
                  refine c_region ?_
                  refine L_val (v := .slice a_l3 a_l3l a_l3c) (y_move (ev_tv rfl ((hag39 2 rfl).trans ((hag26 2 rfl).trans rfl)))) ?_
                  refine L_val (v := .int .i64 v25) (y_move (ev_tv rfl hs43)) ?_
                  obtain ⟨b28, o29, rfl, H⟩ := H
                  obtain ⟨hi50, hi51, H⟩ := H
                  refine L_val (v := .pointer (some ⟨b28, o29 + (v25 : Int).toNat * 4, none⟩)) (y_ix Try.underlying22 Try.type32 rfl (ev_tv rfl rfl) (ev_tv rfl rfl) hi50 hi51) ?_
                  obtain ⟨x30, x31, x32, x33, hc52, H⟩ := H
                  refine L_val (v := .agg #[.int .i64 x30, .int .i64 x31, .int .u8 x32, .int .i64 x33]) (y_loadAgg Try.underlying32 rfl Try.type32 rfl (ev_tv rfl rfl) hc52) ?_
                  obtain ⟨b34, hb53⟩ : ∃ b34 : Nat, b34 = World.heapSize w27 := ⟨_, rfl⟩
                  obtain ⟨w35, hw54⟩ : ∃ w35 : World, w35 = World.alloc w27 (.cells #[.int .i64 0, .int .i64 0, .int .u8 0, .int .i64 0] 32) := ⟨_, rfl⟩
                  replace H := H b34 w35 hb53 hw54
                  refine L_val (v := .pointer (some ⟨b34, 0, none⟩)) (y_alloc Try.type32 rfl rfl hb53 hw54) ?_
                  obtain ⟨hc55, H⟩ := H
                  obtain ⟨w36, hw57⟩ : ∃ w36 : World, w36 = putCells w35 ⟨b34, 0, none⟩ [.int .i64 x30, .int .i64 x31, .int .u8 x32, .int .i64 x33] 0 := ⟨_, rfl⟩
                  replace H := H w36 hw57
                  refine L_skip (y_storeAgg Try.type32 rfl (by intro v hv; simp only [List.mem_cons, List.not_mem_nil, or_false] at hv; rcases hv with rfl | rfl | rfl | rfl <;> rfl) (ev_tv rfl rfl) (ev_tv rfl rfl) hc55 hw57) ?_
                  refine l_nil ?_
                  refine then_norm ?_
                  refine hK49 _ _ ?_
                  clear hK49
                  refine c_seq ?_
                  intro K58 hK58
                  refine c_region ?_
                  refine L_val (v := .pointer (some ⟨b34, 0, none⟩)) (Try.fa32_0 (ev_tv rfl rfl)) ?_
                  obtain ⟨x37, hc59, H⟩ := H
                  refine L_val (v := .int .i64 x37) (y_load Try.underlying3 rfl (ev_tv rfl rfl) hc59) ?_
                  refine l_nil ?_
                  refine then_norm ?_
                  refine hK58 _ _ ?_
                  clear hK58
                  refine c_block ?_
                  refine c_seq ?_
                  intro K60 hK60
                  refine c_region ?_
                  refine L_val (v := .bool (decide ((x37 : Int) = 1))) (y_ieq (ev_tv rfl rfl) ev_c) ?_
                  refine L_val (v := .bool (decide ((x37 : Int) = 1))) (y_assign (ev_tv rfl rfl)) ?_
                  refine l_nil ?_
                  refine then_norm ?_
                  refine hK60 _ _ ?_
                  clear hK60
                  rcases (Decidable.em ((x37 : Int) = 1)) with hb61 | hb61
                  · replace H := H.1 hb61
                    have hq62 : Value.bool (decide ((x37 : Int) = 1)) = Value.bool true := congrArg Value.bool (decide_eq_true hb61)
                    refine cond_t (ev_tv rfl hq62) ?_
                    refine c_seq ?_
                    intro K63 hK63
                    refine c_region ?_
                    refine L_val (v := .pointer x15) (y_move (ev_tv rfl ((hag39 11 rfl).trans ((hag26 11 rfl).trans rfl)))) ?_
                    refine L_val (v := .pointer (some ⟨b34, 0 + 1, none⟩)) (Try.fa32_1 (ev_tv rfl rfl)) ?_
                    obtain ⟨x38, hc64, H⟩ := H
                    refine L_val (v := .int .i64 x38) (y_load Try.underlying3 rfl (ev_tv rfl rfl) hc64) ?_
                    refine L_call (y_call Try.call9 (map_ev2 (ev_tv rfl rfl) (ev_tv rfl rfl)) ev_f) (Calls.mono H ?_)
                    clear H
                    rintro _ w41 ⟨x39, x39l, x39c, x40, rfl, H⟩
                    refine ⟨_, rfl, ?_⟩
                    refine L_val (v := .tuple #[.slice x39 x39l x39c, .int .i64 x40]) (y_move (ev_tv rfl rfl)) ?_
                    refine L_val (v := .slice x39 x39l x39c) (y_extract (ev_tv rfl rfl) rfl) ?_
                    refine L_val (v := .int .i64 x40) (y_extract (ev_tv rfl rfl) rfl) ?_
                    refine L_val (v := .slice x39 x39l x39c) (y_assign (ev_tv rfl rfl)) ?_
                    refine L_val (v := .int .i64 x40) (y_assign (ev_tv rfl rfl)) ?_
                    refine l_nil ?_
                    refine then_norm ?_
                    refine hK63 _ _ ?_
                    clear hK63
                    refine c_seq ?_
                    intro K65 hK65
                    refine c_region ?_
                    refine L_val (v := .pointer x19) (y_move (ev_tv rfl ((hag39 13 rfl).trans ((hag26 13 rfl).trans rfl)))) ?_
                    refine L_val (v := .pointer (some ⟨b34, 0 + 1, none⟩)) (Try.fa32_1 (ev_tv rfl rfl)) ?_
                    obtain ⟨x43, hc66, H⟩ := H
                    refine L_val (v := .int .i64 x43) (y_load Try.underlying3 rfl (ev_tv rfl rfl) hc66) ?_
                    refine L_call (y_call Try.call9 (map_ev2 (ev_tv rfl rfl) (ev_tv rfl rfl)) ev_f) (Calls.mono H ?_)
                    clear H
                    rintro _ w46 ⟨x44, x44l, x44c, x45, rfl, H⟩
                    refine ⟨_, rfl, ?_⟩
                    refine L_val (v := .tuple #[.slice x44 x44l x44c, .int .i64 x45]) (y_move (ev_tv rfl rfl)) ?_
                    refine L_val (v := .slice x44 x44l x44c) (y_extract (ev_tv rfl rfl) rfl) ?_
                    refine L_val (v := .int .i64 x45) (y_extract (ev_tv rfl rfl) rfl) ?_
                    refine L_val (v := .slice x44 x44l x44c) (y_assign (ev_tv rfl rfl)) ?_
                    refine L_val (v := .int .i64 x45) (y_assign (ev_tv rfl rfl)) ?_
                    refine l_nil ?_
                    refine then_norm ?_
                    refine hK65 _ _ ?_
                    clear hK65
                    refine c_seq ?_
                    intro K67 hK67
                    refine c_seq ?_
                    intro K68 hK68
                    refine c_region ?_
                    refine L_val (v := .int .i64 x40) (y_move (ev_tv rfl rfl)) ?_
                    refine L_val (v := .bool (decide ((x40 : Int) = 150))) (y_ieq (ev_tv rfl rfl) ev_c) ?_
                    refine L_val (v := .bool (decide ((x40 : Int) = 150))) (y_move (ev_tv rfl rfl)) ?_
                    rcases (Decidable.em ((x40 : Int) = 150)) with hb69 | hb69
                    · replace H := H.1 hb69
                      have hq70 : Value.bool (decide ((x40 : Int) = 150)) = Value.bool true := congrArg Value.bool (decide_eq_true hb69)
                      refine G_not (b' := true) (dj := 117) rfl rfl hq70 rfl ?_
                      refine G_not (b' := true) (dj := 117) rfl rfl hq70 rfl ?_
                      refine L_val (v := .bool true) (y_pick_t (ev_tv rfl hq70) ev_c) ?_
                      refine l_nil ?_
                      refine then_norm ?_
                      refine hK68 _ _ ?_
                      clear hK68
                      refine cond_t (ev_tv rfl rfl) ?_
                      refine c_seq ?_
                      intro K71 hK71
                      refine c_region ?_
                      refine L_val (v := .bool true) (y_assign ev_c) ?_
                      refine l_nil ?_
                      refine then_norm ?_
                      refine hK71 _ _ ?_
                      clear hK71
                      refine c_ret ?_
                      refine then_ret ?_
                      refine block_ret ?_
                      refine block_ret ?_
                      refine then_ret ?_
                      refine then_ret ?_
                      refine block_ret ?_
                      refine then_ret ?_
                      exact body_1 rfl (ev_tv rfl rfl) H
                    · replace H := H.2 hb69
                      have hq70 : Value.bool (decide ((x40 : Int) = 150)) = Value.bool false := congrArg Value.bool (decide_eq_false hb69)
                      refine G_val (dj := 117) rfl rfl hq70 (v := .int .i64 x45) (y_move (ev_tv rfl rfl)) ?_
                      refine G_val (dj := 117) rfl rfl hq70 (v := .bool (decide ((x45 : Int) = 150))) (y_ieq (ev_tv rfl rfl) ev_c) ?_
                      refine L_val (v := .bool (decide ((x45 : Int) = 150))) (y_pick_f (ev_tv rfl hq70) (ev_tv rfl rfl)) ?_
                      refine l_nil ?_
                      refine then_norm ?_
                      refine hK68 _ _ ?_
                      clear hK68
                      rcases (Decidable.em ((x45 : Int) = 150)) with hb72 | hb72
                      · replace H := H.1 hb72
                        have hq73 : Value.bool (decide ((x45 : Int) = 150)) = Value.bool true := congrArg Value.bool (decide_eq_true hb72)
                        refine cond_t (ev_tv rfl hq73) ?_
                        refine c_seq ?_
                        intro K74 hK74
                        refine c_region ?_
                        refine L_val (v := .bool true) (y_assign ev_c) ?_
                        refine l_nil ?_
                        refine then_norm ?_
                        refine hK74 _ _ ?_
                        clear hK74
                        refine c_ret ?_
                        refine then_ret ?_
                        refine block_ret ?_
                        refine block_ret ?_
                        refine then_ret ?_
                        refine then_ret ?_
                        refine block_ret ?_
                        refine then_ret ?_
                        exact body_1 rfl (ev_tv rfl rfl) H
                      · replace H := H.2 hb72
                        have hq73 : Value.bool (decide ((x45 : Int) = 150)) = Value.bool false := congrArg Value.bool (decide_eq_false hb72)
                        refine cond_f (ev_tv rfl hq73) ?_
                        refine c_skip ?_
                        refine then_norm ?_
                        refine hK67 _ _ ?_
                        clear hK67
                        refine c_seq ?_
                        intro K75 hK75
                        refine c_region ?_
                        refine L_val (v := .int .i64 x40) (y_move (ev_tv rfl rfl)) ?_
                        refine L_val (v := .int .i64 x45) (y_move (ev_tv rfl rfl)) ?_
                        refine L_val (v := .bool (!decide ((x40 : Int) = x45))) (y_ine (ev_tv rfl rfl) (ev_tv rfl rfl)) ?_
                        refine L_val (v := .bool (!decide ((x40 : Int) = x45))) (y_move (ev_tv rfl rfl)) ?_
                        rcases (Decidable.em ((x40 : Int) = x45)).symm with hb76 | hb76
                        · replace H := H.1 hb76
                          have hq77 : Value.bool (!decide ((x40 : Int) = x45)) = Value.bool true := congrArg Value.bool (ndec_t hb76)
                          refine G_not (b' := true) (dj := 124) rfl rfl hq77 rfl ?_
                          refine G_not (b' := true) (dj := 124) rfl rfl hq77 rfl ?_
                          refine G_not (b' := true) (dj := 124) rfl rfl hq77 rfl ?_
                          refine G_not (b' := true) (dj := 124) rfl rfl hq77 rfl ?_
                          refine L_val (v := .bool true) (y_pick_t (ev_tv rfl hq77) ev_c) ?_
                          refine l_nil ?_
                          refine then_norm ?_
                          refine hK75 _ _ ?_
                          clear hK75
                          refine cond_t (ev_tv rfl rfl) ?_
                          refine c_seq ?_
                          intro K78 hK78
                          refine c_region ?_
                          refine L_val (v := .bool false) (y_assign ev_c) ?_
                          refine l_nil ?_
                          refine then_norm ?_
                          refine hK78 _ _ ?_
                          clear hK78
                          refine c_ret ?_
                          refine block_ret ?_
                          refine block_ret ?_
                          refine then_ret ?_
                          refine then_ret ?_
                          refine block_ret ?_
                          refine then_ret ?_
                          exact body_1 rfl (ev_tv rfl rfl) H
                        · replace H := H.2 hb76
                          have hq77 : Value.bool (!decide ((x40 : Int) = x45)) = Value.bool false := congrArg Value.bool (ndec_f hb76)
                          refine G_val (dj := 124) rfl rfl hq77 (v := .slice x39 x39l x39c) (y_move (ev_tv rfl rfl)) ?_
                          refine G_val (dj := 124) rfl rfl hq77 (v := .slice x44 x44l x44c) (y_move (ev_tv rfl rfl)) ?_
                          refine G_call (dj := 124) rfl rfl hq77 (y_call Try.call10 (map_ev2 (ev_tv rfl rfl) (ev_tv rfl rfl)) ev_f) (Calls.mono H ?_)
                          clear H
                          rintro _ w49 ⟨x48, rfl, H⟩
                          refine ⟨_, rfl, ?_⟩
                          rcases Bool.eq_false_or_eq_true x48 with hb79 | hb79
                          · replace H := H.1 hb79
                            have hq80 : Value.bool (x48) = Value.bool true := congrArg Value.bool hb79
                            refine G_val (dj := 124) rfl rfl hq77 (v := .bool false) (y_not_t (ev_tv rfl hq80)) ?_
                            refine L_val (v := .bool false) (y_pick_f (ev_tv rfl hq77) (ev_tv rfl rfl)) ?_
                            refine l_nil ?_
                            refine then_norm ?_
                            refine hK75 _ _ ?_
                            clear hK75
                            refine cond_f (ev_tv rfl rfl) ?_
                            refine c_skip ?_
                            refine block_norm ?_
                            refine block_norm ?_
                            refine then_norm ?_
                            refine hK48 _ _ ?_
                            clear hK48
                            refine c_region ?_
                            refine L_val (v := .int .i64 v25) (y_move (ev_tv rfl hs43)) ?_
                            obtain ⟨r51, hr81⟩ : ∃ r51 : Int, r51 = IntKind.wrap .i64 (v25 + 1) := ⟨_, rfl⟩
                            replace H := H r51 hr81
                            refine L_val (v := .int .i64 r51) (y_add (ev_tv rfl rfl) ev_c hr81) ?_
                            refine L_val (v := .int .i64 r51) (y_assign (ev_tv rfl rfl)) ?_
                            refine l_nil ?_
                            refine then_norm ?_
                            obtain ⟨m52, hm82, H⟩ := H
                            exact ⟨_, rfl, (by repeat (first | exact agree_refl | exact hag39 | exact hag26 | refine agree_upd rfl ?_ | refine agree_via hag39 rfl ?_ | refine agree_via hag26 rfl ?_)), m52, hm82, _, rfl, H⟩
                          · replace H := H.2 hb79
                            have hq80 : Value.bool (x48) = Value.bool false := congrArg Value.bool hb79
                            refine G_val (dj := 124) rfl rfl hq77 (v := .bool true) (y_not_f (ev_tv rfl hq80)) ?_
                            refine L_val (v := .bool true) (y_pick_f (ev_tv rfl hq77) (ev_tv rfl rfl)) ?_
                            refine l_nil ?_
                            refine then_norm ?_
                            refine hK75 _ _ ?_
                            clear hK75
                            refine cond_t (ev_tv rfl rfl) ?_
                            refine c_seq ?_
                            intro K83 hK83
                            refine c_region ?_
                            refine L_val (v := .bool false) (y_assign ev_c) ?_
                            refine l_nil ?_
                            refine then_norm ?_
                            refine hK83 _ _ ?_
                            clear hK83
                            refine c_ret ?_
                            refine block_ret ?_
                            refine block_ret ?_
                            refine then_ret ?_
                            refine then_ret ?_
                            refine block_ret ?_
                            refine then_ret ?_
                            exact body_1 rfl (ev_tv rfl rfl) H
                  · replace H := H.2 hb61
                    have hq62 : Value.bool (decide ((x37 : Int) = 1)) = Value.bool false := congrArg Value.bool (decide_eq_false hb61)
                    refine cond_f (ev_tv rfl hq62) ?_
                    refine c_seq ?_
                    intro K84 hK84
                    refine c_region ?_
                    refine L_val (v := .bool (decide ((x37 : Int) = 2))) (y_ieq (ev_tv rfl rfl) ev_c) ?_
                    refine L_val (v := .bool (decide ((x37 : Int) = 2))) (y_assign (ev_tv rfl rfl)) ?_
                    refine l_nil ?_
                    refine then_norm ?_
                    refine hK84 _ _ ?_
                    clear hK84
                    rcases (Decidable.em ((x37 : Int) = 2)) with hb85 | hb85
                    · replace H := H.1 hb85
                      have hq86 : Value.bool (decide ((x37 : Int) = 2)) = Value.bool true := congrArg Value.bool (decide_eq_true hb85)
                      refine cond_t (ev_tv rfl hq86) ?_
                      refine c_seq ?_
                      intro K87 hK87
                      refine D_start Try.mixed rfl [5, 6, 12, 13] ?_
                      refine start_keep fun hS => ?_
                      refine D_pure (i := 0) (v := .pointer x15) rfl (by kernel_rfl) (W_none rfl) (fun _ => y_move (ev_tv rfl ((hag39 11 rfl).trans ((hag26 11 rfl).trans rfl)))) hS ?_
                      intro hS
                      refine D_pure (i := 1) (v := .pointer (some ⟨b34, 0 + 1, none⟩)) rfl (by kernel_rfl) (W_none rfl) (fun _ => Try.fa32_1 (ev_tv rfl rfl)) hS ?_
                      intro hS
                      refine D_pure (i := 3) (v := .pointer (some ⟨b34, 0 + 2, none⟩)) rfl (by kernel_rfl) (W_none rfl) (fun _ => Try.fa32_2 (ev_tv rfl rfl)) hS ?_
                      intro hS
                      refine D_pure (i := 7) (v := .pointer x19) rfl (by kernel_rfl) (W_none rfl) (fun _ => y_move (ev_tv rfl ((hag39 13 rfl).trans ((hag26 13 rfl).trans rfl)))) hS ?_
                      intro hS
                      refine D_pure (i := 8) (v := .pointer (some ⟨b34, 0 + 1, none⟩)) rfl (by kernel_rfl) (W_none rfl) (fun _ => Try.fa32_1 (ev_tv rfl rfl)) hS ?_
                      intro hS
                      refine D_pure (i := 10) (v := .pointer (some ⟨b34, 0 + 2, none⟩)) rfl (by kernel_rfl) (W_none rfl) (fun _ => Try.fa32_2 (ev_tv rfl rfl)) hS ?_
                      intro hS
                      obtain ⟨x53, hc88, H⟩ := H
                      refine D_read (i := 2) (v := .int .i64 x53) rfl (by kernel_rfl) (W_none rfl) (fun wx => World.cell? wx ⟨b34, 0 + 1, none⟩ = some (.int .i64 x53)) hc88 (fun _ hcx => y_load Try.underlying3 rfl (ev_tv rfl rfl) hcx) hS ?_
                      intro hS
                      obtain ⟨x54, hc89, H⟩ := H
                      refine D_read (i := 4) (v := .int .u8 x54) rfl (by kernel_rfl) (W_none rfl) (fun wx => World.cell? wx ⟨b34, 0 + 2, none⟩ = some (.int .u8 x54)) hc89 (fun _ hcx => y_load Try.underlying5 rfl (ev_tv rfl rfl) hcx) hS ?_
                      intro hS
                      obtain ⟨x55, hc90, H⟩ := H
                      refine D_read (i := 9) (v := .int .i64 x55) rfl (by kernel_rfl) (W_none rfl) (fun wx => World.cell? wx ⟨b34, 0 + 1, none⟩ = some (.int .i64 x55)) hc90 (fun _ hcx => y_load Try.underlying3 rfl (ev_tv rfl rfl) hcx) hS ?_
                      intro hS
                      obtain ⟨x56, hc91, H⟩ := H
                      refine D_read (i := 11) (v := .int .u8 x56) rfl (by kernel_rfl) (W_none rfl) (fun wx => World.cell? wx ⟨b34, 0 + 2, none⟩ = some (.int .u8 x56)) hc91 (fun _ hcx => y_load Try.underlying5 rfl (ev_tv rfl rfl) hcx) hS ?_
                      intro hS
                      refine D_only (i := 5) (by kernel_rfl) rfl ?_
                      refine O_call (i := 5) rfl (W_none rfl) (y_call Try.call12 (map_ev2 (ev_tv rfl rfl) ev_c) ev_f) (Calls.mono H ?_)
                      clear H
                      rintro _ w58 ⟨x57, x57l, x57c, rfl, H⟩
                      refine ⟨_, rfl, ?_⟩
                      obtain ⟨hs109, hs110, hs111, H⟩ := H
                      refine and_keep (SS_on hs109 (SS_on hs110 (SS_off (by kernel_rfl) (SS_on hs111 SS_nil)))) fun hS => ?_
                      refine D_only (i := 6) (by kernel_rfl) rfl ?_
                      refine O_call (i := 6) rfl (W_none rfl) (y_call Try.call11 (map_ev3 (ev_tv rfl rfl) (ev_tv rfl rfl) (ev_tv rfl rfl)) ev_f) (Calls.mono H ?_)
                      clear H
                      rintro _ w60 ⟨x59, rfl, H⟩
                      refine ⟨_, rfl, ?_⟩
                      obtain ⟨hs107, hs108, H⟩ := H
                      refine and_keep (SS_on hs107 (SS_on hs108 (SS_off (by kernel_rfl) (SS_off (by kernel_rfl) SS_nil)))) fun hS => ?_
                      refine D_only (i := 12) (by kernel_rfl) rfl ?_
                      refine O_call (i := 12) rfl (W_none rfl) (y_call Try.call12 (map_ev2 (ev_tv rfl rfl) ev_c) ev_f) (Calls.mono H ?_)
                      clear H
                      rintro _ w62 ⟨x61, x61l, x61c, rfl, H⟩
                      refine ⟨_, rfl, ?_⟩
                      obtain ⟨hs106, H⟩ := H
                      refine and_keep (SS_off (by kernel_rfl) (SS_on hs106 (SS_off (by kernel_rfl) (SS_off (by kernel_rfl) SS_nil)))) fun hS => ?_
                      refine D_only (i := 13) (by kernel_rfl) rfl ?_
                      refine O_call (i := 13) rfl (W_none rfl) (y_call Try.call11 (map_ev3 (ev_tv rfl rfl) (ev_tv rfl rfl) (ev_tv rfl rfl)) ev_f) (Calls.mono H ?_)
                      clear H
                      rintro _ w64 ⟨x63, rfl, H⟩
                      refine ⟨_, rfl, ?_⟩
                      refine and_keep (SS_off (by kernel_rfl) (SS_off (by kernel_rfl) (SS_off (by kernel_rfl) (SS_off (by kernel_rfl) SS_nil)))) fun hS => ?_
                      refine D_pure (i := 14) (v := .int .i64 x59) rfl (by kernel_rfl) (W_none rfl) (fun _ => y_assign (ev_tv rfl rfl)) hS ?_
                      intro hS
                      refine D_pure (i := 15) (v := .int .i64 x63) rfl (by kernel_rfl) (W_none rfl) (fun _ => y_assign (ev_tv rfl rfl)) hS ?_
                      intro hS
                      refine D_done (by kernel_rfl) ?_
                      refine then_norm ?_
                      refine hK87 _ _ ?_
                      clear hK87
                      refine c_seq ?_
                      intro K92 hK92
                      refine c_seq ?_
                      intro K93 hK93
                      refine c_region ?_
                      refine L_val (v := .int .i64 x59) (y_move (ev_tv rfl rfl)) ?_
                      refine L_val (v := .bool (decide ((x59 : Int) = 150))) (y_ieq (ev_tv rfl rfl) ev_c) ?_
                      refine L_val (v := .bool (decide ((x59 : Int) = 150))) (y_move (ev_tv rfl rfl)) ?_
                      rcases (Decidable.em ((x59 : Int) = 150)) with hb94 | hb94
                      · replace H := H.1 hb94
                        have hq95 : Value.bool (decide ((x59 : Int) = 150)) = Value.bool true := congrArg Value.bool (decide_eq_true hb94)
                        refine G_not (b' := true) (dj := 148) rfl rfl hq95 rfl ?_
                        refine G_not (b' := true) (dj := 148) rfl rfl hq95 rfl ?_
                        refine L_val (v := .bool true) (y_pick_t (ev_tv rfl hq95) ev_c) ?_
                        refine l_nil ?_
                        refine then_norm ?_
                        refine hK93 _ _ ?_
                        clear hK93
                        refine cond_t (ev_tv rfl rfl) ?_
                        refine c_seq ?_
                        intro K96 hK96
                        refine c_region ?_
                        refine L_val (v := .bool true) (y_assign ev_c) ?_
                        refine l_nil ?_
                        refine then_norm ?_
                        refine hK96 _ _ ?_
                        clear hK96
                        refine c_ret ?_
                        refine then_ret ?_
                        refine block_ret ?_
                        refine block_ret ?_
                        refine then_ret ?_
                        refine then_ret ?_
                        refine block_ret ?_
                        refine then_ret ?_
                        exact body_1 rfl (ev_tv rfl rfl) H
                      · replace H := H.2 hb94
                        have hq95 : Value.bool (decide ((x59 : Int) = 150)) = Value.bool false := congrArg Value.bool (decide_eq_false hb94)
                        refine G_val (dj := 148) rfl rfl hq95 (v := .int .i64 x63) (y_move (ev_tv rfl rfl)) ?_
                        refine G_val (dj := 148) rfl rfl hq95 (v := .bool (decide ((x63 : Int) = 150))) (y_ieq (ev_tv rfl rfl) ev_c) ?_
                        refine L_val (v := .bool (decide ((x63 : Int) = 150))) (y_pick_f (ev_tv rfl hq95) (ev_tv rfl rfl)) ?_
                        refine l_nil ?_
                        refine then_norm ?_
                        refine hK93 _ _ ?_
                        clear hK93
                        rcases (Decidable.em ((x63 : Int) = 150)) with hb97 | hb97
                        · replace H := H.1 hb97
                          have hq98 : Value.bool (decide ((x63 : Int) = 150)) = Value.bool true := congrArg Value.bool (decide_eq_true hb97)
                          refine cond_t (ev_tv rfl hq98) ?_
                          refine c_seq ?_
                          intro K99 hK99
                          refine c_region ?_
                          refine L_val (v := .bool true) (y_assign ev_c) ?_
                          refine l_nil ?_
                          refine then_norm ?_
                          refine hK99 _ _ ?_
                          clear hK99
                          refine c_ret ?_
                          refine then_ret ?_
                          refine block_ret ?_
                          refine block_ret ?_
                          refine then_ret ?_
                          refine then_ret ?_
                          refine block_ret ?_
                          refine then_ret ?_
                          exact body_1 rfl (ev_tv rfl rfl) H
                        · replace H := H.2 hb97
                          have hq98 : Value.bool (decide ((x63 : Int) = 150)) = Value.bool false := congrArg Value.bool (decide_eq_false hb97)
                          refine cond_f (ev_tv rfl hq98) ?_
                          refine c_skip ?_
                          refine then_norm ?_
                          refine hK92 _ _ ?_
                          clear hK92
                          refine c_seq ?_
                          intro K100 hK100
                          refine c_region ?_
                          refine L_val (v := .int .i64 x59) (y_move (ev_tv rfl rfl)) ?_
                          refine L_val (v := .int .i64 x63) (y_move (ev_tv rfl rfl)) ?_
                          refine L_val (v := .bool (!decide ((x59 : Int) = x63))) (y_ine (ev_tv rfl rfl) (ev_tv rfl rfl)) ?_
                          refine l_nil ?_
                          refine then_norm ?_
                          refine hK100 _ _ ?_
                          clear hK100
                          rcases (Decidable.em ((x59 : Int) = x63)).symm with hb101 | hb101
                          · replace H := H.1 hb101
                            have hq102 : Value.bool (!decide ((x59 : Int) = x63)) = Value.bool true := congrArg Value.bool (ndec_t hb101)
                            refine cond_t (ev_tv rfl hq102) ?_
                            refine c_seq ?_
                            intro K103 hK103
                            refine c_region ?_
                            refine L_val (v := .bool false) (y_assign ev_c) ?_
                            refine l_nil ?_
                            refine then_norm ?_
                            refine hK103 _ _ ?_
                            clear hK103
                            refine c_ret ?_
                            refine block_ret ?_
                            refine block_ret ?_
                            refine then_ret ?_
                            refine then_ret ?_
                            refine block_ret ?_
                            refine then_ret ?_
                            exact body_1 rfl (ev_tv rfl rfl) H
                          · replace H := H.2 hb101
                            have hq102 : Value.bool (!decide ((x59 : Int) = x63)) = Value.bool false := congrArg Value.bool (ndec_f hb101)
                            refine cond_f (ev_tv rfl hq102) ?_
                            refine c_skip ?_
                            refine block_norm ?_
                            refine block_norm ?_
                            refine then_norm ?_
                            refine hK48 _ _ ?_
                            clear hK48
                            refine c_region ?_
                            refine L_val (v := .int .i64 v25) (y_move (ev_tv rfl hs43)) ?_
                            obtain ⟨r65, hr104⟩ : ∃ r65 : Int, r65 = IntKind.wrap .i64 (v25 + 1) := ⟨_, rfl⟩
                            replace H := H r65 hr104
                            refine L_val (v := .int .i64 r65) (y_add (ev_tv rfl rfl) ev_c hr104) ?_
                            refine L_val (v := .int .i64 r65) (y_assign (ev_tv rfl rfl)) ?_
                            refine l_nil ?_
                            refine then_norm ?_
                            obtain ⟨m66, hm105, H⟩ := H
                            exact ⟨_, rfl, (by repeat (first | exact agree_refl | exact hag39 | exact hag26 | refine agree_upd rfl ?_ | refine agree_via hag39 rfl ?_ | refine agree_via hag26 rfl ?_)), m66, hm105, _, rfl, H⟩
                    · replace H := H.2 hb85
                      have hq86 : Value.bool (decide ((x37 : Int) = 2)) = Value.bool false := congrArg Value.bool (decide_eq_false hb85)
                      refine cond_f (ev_tv rfl hq86) ?_
                      refine c_seq ?_
                      intro K112 hK112
                      refine c_region ?_
                      refine L_val (v := .bool (decide ((x37 : Int) = 3))) (y_ieq (ev_tv rfl rfl) ev_c) ?_
                      refine L_val (v := .bool (decide ((x37 : Int) = 3))) (y_assign (ev_tv rfl rfl)) ?_
                      refine l_nil ?_
                      refine then_norm ?_
                      refine hK112 _ _ ?_
                      clear hK112
                      rcases (Decidable.em ((x37 : Int) = 3)) with hb113 | hb113
                      · replace H := H.1 hb113
                        have hq114 : Value.bool (decide ((x37 : Int) = 3)) = Value.bool true := congrArg Value.bool (decide_eq_true hb113)
                        refine cond_t (ev_tv rfl hq114) ?_
                        refine c_region ?_
                        refine L_val (v := .pointer x15) (y_move (ev_tv rfl ((hag39 11 rfl).trans ((hag26 11 rfl).trans rfl)))) ?_
                        refine L_val (v := .pointer (some ⟨b34, 0 + 1, none⟩)) (Try.fa32_1 (ev_tv rfl rfl)) ?_
                        obtain ⟨x67, hc115, H⟩ := H
                        refine L_val (v := .int .i64 x67) (y_load Try.underlying3 rfl (ev_tv rfl rfl) hc115) ?_
                        refine L_call (y_call Try.call13 (map_ev2 (ev_tv rfl rfl) (ev_tv rfl rfl)) ev_f) (Calls.mono H ?_)
                        clear H
                        rintro _ w70 ⟨x68, x69, rfl, H⟩
                        refine ⟨_, rfl, ?_⟩
                        refine l_nil ?_
                        refine block_norm ?_
                        refine block_norm ?_
                        refine then_norm ?_
                        refine hK48 _ _ ?_
                        clear hK48
                        refine c_region ?_
                        refine L_val (v := .int .i64 v25) (y_move (ev_tv rfl hs43)) ?_
                        obtain ⟨r72, hr116⟩ : ∃ r72 : Int, r72 = IntKind.wrap .i64 (v25 + 1) := ⟨_, rfl⟩
                        replace H := H r72 hr116
                        refine L_val (v := .int .i64 r72) (y_add (ev_tv rfl rfl) ev_c hr116) ?_
                        refine L_val (v := .int .i64 r72) (y_assign (ev_tv rfl rfl)) ?_
                        refine l_nil ?_
                        refine then_norm ?_
                        obtain ⟨m73, hm117, H⟩ := H
                        exact ⟨_, rfl, (by repeat (first | exact agree_refl | exact hag39 | exact hag26 | refine agree_upd rfl ?_ | refine agree_via hag39 rfl ?_ | refine agree_via hag26 rfl ?_)), m73, hm117, _, rfl, H⟩
                      · replace H := H.2 hb113
                        have hq114 : Value.bool (decide ((x37 : Int) = 3)) = Value.bool false := congrArg Value.bool (decide_eq_false hb113)
                        refine cond_f (ev_tv rfl hq114) ?_
                        refine c_seq ?_
                        intro K118 hK118
                        refine c_region ?_
                        refine L_val (v := .bool (decide ((x37 : Int) = 4))) (y_ieq (ev_tv rfl rfl) ev_c) ?_
                        refine L_val (v := .bool (decide ((x37 : Int) = 4))) (y_assign (ev_tv rfl rfl)) ?_
                        refine l_nil ?_
                        refine then_norm ?_
                        refine hK118 _ _ ?_
                        clear hK118
                        rcases (Decidable.em ((x37 : Int) = 4)) with hb119 | hb119
                        · replace H := H.1 hb119
                          have hq120 : Value.bool (decide ((x37 : Int) = 4)) = Value.bool true := congrArg Value.bool (decide_eq_true hb119)
                          refine cond_t (ev_tv rfl hq120) ?_
                          refine c_region ?_
                          refine L_val (v := .pointer x19) (y_move (ev_tv rfl ((hag39 13 rfl).trans ((hag26 13 rfl).trans rfl)))) ?_
                          refine L_call (y_call Try.call14 (map_ev1 (ev_tv rfl rfl)) ev_f) (Calls.mono H ?_)
                          clear H
                          rintro _ w75 ⟨x74, rfl, H⟩
                          refine ⟨_, rfl, ?_⟩
                          refine l_nil ?_
                          refine block_norm ?_
                          refine block_norm ?_
                          refine then_norm ?_
                          refine hK48 _ _ ?_
                          clear hK48
                          refine c_region ?_
                          refine L_val (v := .int .i64 v25) (y_move (ev_tv rfl hs43)) ?_
                          obtain ⟨r77, hr121⟩ : ∃ r77 : Int, r77 = IntKind.wrap .i64 (v25 + 1) := ⟨_, rfl⟩
                          replace H := H r77 hr121
                          refine L_val (v := .int .i64 r77) (y_add (ev_tv rfl rfl) ev_c hr121) ?_
                          refine L_val (v := .int .i64 r77) (y_assign (ev_tv rfl rfl)) ?_
                          refine l_nil ?_
                          refine then_norm ?_
                          obtain ⟨m78, hm122, H⟩ := H
                          exact ⟨_, rfl, (by repeat (first | exact agree_refl | exact hag39 | exact hag26 | refine agree_upd rfl ?_ | refine agree_via hag39 rfl ?_ | refine agree_via hag26 rfl ?_)), m78, hm122, _, rfl, H⟩
                        · replace H := H.2 hb119
                          have hq120 : Value.bool (decide ((x37 : Int) = 4)) = Value.bool false := congrArg Value.bool (decide_eq_false hb119)
                          refine cond_f (ev_tv rfl hq120) ?_
                          refine c_skip ?_
                          refine block_norm ?_
                          refine block_norm ?_
                          refine then_norm ?_
                          refine hK48 _ _ ?_
                          clear hK48
                          refine c_region ?_
                          refine L_val (v := .int .i64 v25) (y_move (ev_tv rfl hs43)) ?_
                          obtain ⟨r79, hr123⟩ : ∃ r79 : Int, r79 = IntKind.wrap .i64 (v25 + 1) := ⟨_, rfl⟩
                          replace H := H r79 hr123
                          refine L_val (v := .int .i64 r79) (y_add (ev_tv rfl rfl) ev_c hr123) ?_
                          refine L_val (v := .int .i64 r79) (y_assign (ev_tv rfl rfl)) ?_
                          refine l_nil ?_
                          refine then_norm ?_
                          obtain ⟨m80, hm124, H⟩ := H
                          exact ⟨_, rfl, (by repeat (first | exact agree_refl | exact hag39 | exact hag26 | refine agree_upd rfl ?_ | refine agree_via hag39 rfl ?_ | refine agree_via hag26 rfl ?_)), m80, hm124, _, rfl, H⟩
                · replace H := H.2 hb46
                  have hq47 : Value.bool (decide ((v25 : Int) < ((a_l3l : Nat) : Int))) = Value.bool false := congrArg Value.bool (decide_eq_false hb46)
                  refine cond_f (ev_tv rfl hq47) ?_
                  refine c_exit ?_
                  refine then_exit ?_
                  refine then_exit ?_
                  refine block_hit ?_
                  refine then_norm ?_
                  refine hK35 _ _ ?_
                  clear hK35
                  refine c_seq ?_
                  intro K125 hK125
                  refine c_region ?_
                  refine L_val (v := .bool true) (y_assign ev_c) ?_
                  refine l_nil ?_
                  refine then_norm ?_
                  refine hK125 _ _ ?_
                  clear hK125
                  refine c_ret ?_
                  exact body_1 rfl (ev_tv rfl rfl) H
          · replace H := H.2 hb18
            have hq19 : Value.bool (x12) = Value.bool false := congrArg Value.bool hb18
            refine G_val (dj := 45) rfl rfl hq16 (v := .bool true) (y_not_f (ev_tv rfl hq19)) ?_
            refine L_val (v := .bool true) (y_pick_f (ev_tv rfl hq16) (ev_tv rfl rfl)) ?_
            refine l_nil ?_
            refine then_norm ?_
            refine hK5 _ _ ?_
            clear hK5
            refine cond_t (ev_tv rfl rfl) ?_
            refine c_seq ?_
            intro K132 hK132
            refine c_region ?_
            refine L_val (v := .bool false) (y_assign ev_c) ?_
            refine l_nil ?_
            refine then_norm ?_
            refine hK132 _ _ ?_
            clear hK132
            refine c_ret ?_
            refine then_ret ?_
            exact body_1 rfl (ev_tv rfl rfl) H

/-- parapet/parapetlaw15.BufHolds -/
def Vc4 (a_room1 : Int) (a_l2 : Option Addr) (a_l2l : Nat) (a_l2c : Nat) (w : World) (R : Ending → World → Prop) : Prop :=
  (Calls Try.prog 6 #[.int .i64 12] w fun e w5 => ∃ x3 : Option Addr, ∃ x4 : Int, e = .returned (.tuple #[.pointer x3, .int .i64 x4]) ∧ (((¬ ((x4 : Int) = 0)) → R (.returned (.bool false)) w5) ∧ (((x4 : Int) = 0) → (((x3 = none) → R (.returned (.bool false)) w5) ∧ ((x3 ≠ none) → (Calls Try.prog 7 #[] w5 fun e w8 => ∃ x7 : Bool, e = .returned (.bool x7) ∧ (((x7 = true) → (Calls Try.prog 8 #[.pointer x3, .int .i64 a_room1] w8 fun e w12 => ∃ x10 : Option Addr, ∃ x11 : Int, e = .returned (.tuple #[.pointer x10, .int .i64 x11]) ∧ (((¬ ((x11 : Int) = 0)) → R (.returned (.bool (x10.isNone))) w12) ∧ (((x11 : Int) = 0) → (((x10 = none) → R (.returned (.bool (x10.isNone))) w12) ∧ ((x10 ≠ none) → (∃ I24 : Nat → Int → World → Prop, (∃ m, I24 m 0 w12) ∧ ∀ (m15 : Nat) (v14 : Int) (w16 : World), I24 m15 v14 w16 → ((((v14 : Int) < ((a_l2l : Nat) : Int)) → (∃ (b17 o18 : Nat), a_l2 = some ⟨b17, o18, none⟩ ∧ ((0 : Int) ≤ v14 ∧ v14 < ((a_l2l : Nat) : Int) ∧ (∃ x19 : Int, ∃ x20 : Int, ∃ x21 : Int, ∃ x22 : Int, CellsAt w16 ⟨b17, o18 + (v14 : Int).toNat * 4, none⟩ [.int .i64 x19, .int .i64 x20, .int .u8 x21, .int .i64 x22] ∧ (∀ (b23 : Nat) (w24 : World), b23 = World.heapSize w16 → w24 = World.alloc w16 (.cells #[.int .i64 0, .int .i64 0, .int .u8 0, .int .i64 0] 32) → ((∀ j, j < 4 → (World.cell? w24 (Addr.add ⟨b23, 0, none⟩ j)).isSome = true ∧ World.frozen? w24 (Addr.add ⟨b23, 0, none⟩ j) = false) ∧ ∀ w25 : World, w25 = putCells w24 ⟨b23, 0, none⟩ [.int .i64 x19, .int .i64 x20, .int .u8 x21, .int .i64 x22] 0 → (Calls Try.prog 15 #[.pointer x10] w25 fun e w27 => ∃ x26 : Option Addr, ∃ x26l : Nat, ∃ x26c : Nat, e = .returned (.slice x26 x26l x26c) ∧ (∃ J46 : World → Prop, (∀  (w29 : World), J46  w29 → (Calls Try.prog 16 #[.pointer x10] w29 fun e w31 => ∃ x30 : Option Addr, ∃ x30l : Nat, ∃ x30c : Nat, e = .returned (.slice x30 x30l x30c) ∧ ((((a_room1 : Int) < ((x30l : Nat) : Int)) → R (.returned (.bool false)) w31) ∧ ((¬ ((a_room1 : Int) < ((x30l : Nat) : Int))) → (∃ J58 : World → Prop, (∀  (w33 : World), J58  w33 → (∃ I65 : Nat → Int → World → Prop, (∃ m, I65 m 0 w33) ∧ ∀ (m35 : Nat) (v34 : Int) (w36 : World), I65 m35 v34 w36 → ((((v34 : Int) < ((x26l : Nat) : Int)) → (∃ I80 : Nat → Bool → Int → World → Prop, (∃ m, I80 m false 0 w36) ∧ ∀ (m39 : Nat) (v37 : Bool) (v38 : Int) (w40 : World), I80 m39 v37 v38 w40 → ((((v38 : Int) < ((x30l : Nat) : Int)) → (((v37 = true) → (∀ r41 : Int, r41 = IntKind.wrap .i64 (v38 + 1) → (∃ m42, m42 < m39 ∧ I80 m42 true r41 (w40.drew)))) ∧ ((v37 = false) → (∃ (b43 o44 : Nat), x30 = some ⟨b43, o44, none⟩ ∧ ((0 : Int) ≤ v38 ∧ v38 < ((x30l : Nat) : Int) ∧ (∃ (b45 o46 : Nat), x26 = some ⟨b45, o46, none⟩ ∧ ((0 : Int) ≤ v34 ∧ v34 < ((x26l : Nat) : Int) ∧ (∃ x47 : Int, World.cell? (w40.drew) ⟨b43, o44 + (v38 : Int).toNat, none⟩ = some (.int .i64 x47) ∧ (∃ x48 : Int, World.cell? (w40.drew) ⟨b45, o46 + (v34 : Int).toNat, none⟩ = some (.int .i64 x48) ∧ (∀ r49 : Int, r49 = IntKind.wrap .i64 (v38 + 1) → (∃ m50, m50 < m39 ∧ I80 m50 (decide ((x47 : Int) = x48)) r49 (w40.drew)))))))))))) ∧ ((¬ ((v38 : Int) < ((x30l : Nat) : Int))) → (((v37 = true) → (∀ r51 : Int, r51 = IntKind.wrap .i64 (v34 + 1) → (∃ m52, m52 < m35 ∧ I65 m52 r51 w40))) ∧ ((v37 = false) → R (.returned (.bool false)) w40)))))) ∧ ((¬ ((v34 : Int) < ((x26l : Nat) : Int))) → (∀ r53 : Int, r53 = IntKind.wrap .i64 (v14 + 1) → (∃ m54, m54 < m15 ∧ I24 m54 r53 w36)))))) ∧ (∃ I114 : Nat → Int → World → Prop, (∃ m, I114 m 0 w31) ∧ ∀ (m56 : Nat) (v55 : Int) (w57 : World), I114 m56 v55 w57 → ((((v55 : Int) < ((x30l : Nat) : Int)) → (∃ I127 : Nat → Int → World → Prop, (∃ m, I127 m 0 w57) ∧ ∀ (m59 : Nat) (v58 : Int) (w60 : World), I127 m59 v58 w60 → ((((v58 : Int) < v55) → (∃ (b61 o62 : Nat), x30 = some ⟨b61, o62, none⟩ ∧ ((0 : Int) ≤ v58 ∧ v58 < ((x30l : Nat) : Int) ∧ ((0 : Int) ≤ v55 ∧ v55 < ((x30l : Nat) : Int) ∧ (∃ x63 : Int, World.cell? (w60.drew) ⟨b61, o62 + (v58 : Int).toNat, none⟩ = some (.int .i64 x63) ∧ (∃ x64 : Int, World.cell? (w60.drew) ⟨b61, o62 + (v55 : Int).toNat, none⟩ = some (.int .i64 x64) ∧ ((((x63 : Int) = x64) → R (.returned (.bool false)) (w60.drew)) ∧ ((¬ ((x63 : Int) = x64)) → (∀ r65 : Int, r65 = IntKind.wrap .i64 (v58 + 1) → (∃ m66, m66 < m59 ∧ I127 m66 r65 (w60.drew))))))))))) ∧ ((¬ ((v58 : Int) < v55)) → (∀ r67 : Int, r67 = IntKind.wrap .i64 (v55 + 1) → (∃ m68, m68 < m56 ∧ I114 m68 r67 w60)))))) ∧ ((¬ ((v55 : Int) < ((x30l : Nat) : Int))) → J58  w57)))))))) ∧ (∃ x69 : Int, World.cell? w27 ⟨b23, 0, none⟩ = some (.int .i64 x69) ∧ ((((x69 : Int) = 1) → (∃ x70 : Int, World.cell? w27 ⟨b23, 0 + 1, none⟩ = some (.int .i64 x70) ∧ (Calls Try.prog 9 #[.pointer x10, .int .i64 x70] w27 fun e w73 => ∃ x71 : Option Addr, ∃ x71l : Nat, ∃ x71c : Nat, ∃ x72 : Int, e = .returned (.tuple #[.slice x71 x71l x71c, .int .i64 x72]) ∧ J46  w73))) ∧ ((¬ ((x69 : Int) = 1)) → ((((x69 : Int) = 2) → (∃ x75 : Int, World.cell? (w27.drew) ⟨b23, 0 + 1, none⟩ = some (.int .i64 x75) ∧ (∃ x76 : Int, World.cell? (w27.drew) ⟨b23, 0 + 2, none⟩ = some (.int .u8 x76) ∧ (Calls Try.prog 12 #[.int .u8 x76, .int .i64 0] (w27.drew) fun e w78 => ∃ x77 : Option Addr, ∃ x77l : Nat, ∃ x77c : Nat, e = .returned (.slice x77 x77l x77c) ∧ (World.cell? w78 ⟨b23, 0 + 1, none⟩ = some (.int .i64 x75) ∧ (Calls Try.prog 11 #[.pointer x10, .int .i64 x75, .slice x77 x77l x77c] w78 fun e w80 => ∃ x79 : Int, e = .returned (.int .i64 x79) ∧ J46  w80)))))) ∧ ((¬ ((x69 : Int) = 2)) → ((((x69 : Int) = 4) → (Calls Try.prog 14 #[.pointer x10] w27 fun e w82 => ∃ x81 : Int, e = .returned (.int .i64 x81) ∧ J46  w82)) ∧ ((¬ ((x69 : Int) = 4)) → J46  w27))))))))))))))) ∧ ((¬ ((v14 : Int) < ((a_l2l : Nat) : Int))) → R (.returned (.bool true)) w16))))))))) ∧ ((x7 = false) → R (.returned (.bool false)) w8))))))))

theorem vc4 {a_room1 : Int} {a_l2 : Option Addr} {a_l2l : Nat} {a_l2c : Nat} {w : World} {R : Ending → World → Prop} (H : Vc4 a_room1 a_l2 a_l2l a_l2c w R) : Calls Try.prog 4 #[.int .i64 a_room1, .slice a_l2 a_l2l a_l2c] w R := by
  unfold Vc4 at H
  refine calls_start [.int .i64 a_room1, .slice a_l2 a_l2l a_l2c] Try.func4 rfl Try.ntmps4 rfl ?_
  refine c_seq ?_
  intro K1 hK1
  refine c_region ?_
  refine L_val (v := .bool false) (y_assign ev_c) ?_
  refine l_nil ?_
  refine then_norm ?_
  refine hK1 _ _ ?_
  clear hK1
  refine c_seq ?_
  intro K2 hK2
  refine c_region ?_
  refine L_call (y_call Try.call6 (map_ev1 ev_c) ev_f) (Calls.mono H ?_)
  clear H
  rintro _ w5 ⟨x3, x4, rfl, H⟩
  refine ⟨_, rfl, ?_⟩
  refine L_val (v := .tuple #[.pointer x3, .int .i64 x4]) (y_move (ev_tv rfl rfl)) ?_
  refine L_val (v := .pointer x3) (y_extract (ev_tv rfl rfl) rfl) ?_
  refine L_val (v := .int .i64 x4) (y_extract (ev_tv rfl rfl) rfl) ?_
  refine L_val (v := .pointer x3) (y_assign (ev_tv rfl rfl)) ?_
  refine L_val (v := .int .i64 x4) (y_assign (ev_tv rfl rfl)) ?_
  refine l_nil ?_
  refine then_norm ?_
  refine hK2 _ _ ?_
  clear hK2
  refine c_seq ?_
  intro K3 hK3
  refine c_seq ?_
  intro K4 hK4
  refine c_region ?_
  refine L_val (v := .int .i64 x4) (y_move (ev_tv rfl rfl)) ?_
  refine L_val (v := .bool (!decide ((x4 : Int) = 0))) (y_ine (ev_tv rfl rfl) ev_c) ?_
  refine L_val (v := .bool (!decide ((x4 : Int) = 0))) (y_move (ev_tv rfl rfl)) ?_
  rcases (Decidable.em ((x4 : Int) = 0)).symm with hb5 | hb5
  · replace H := H.1 hb5
    have hq6 : Value.bool (!decide ((x4 : Int) = 0)) = Value.bool true := congrArg Value.bool (ndec_t hb5)
    refine G_not (b' := true) (dj := 24) rfl rfl hq6 rfl ?_
    refine G_not (b' := true) (dj := 24) rfl rfl hq6 rfl ?_
    refine L_val (v := .bool true) (y_pick_t (ev_tv rfl hq6) ev_c) ?_
    refine L_val (v := .bool true) (y_move (ev_tv rfl rfl)) ?_
    refine G_not (b' := true) (dj := 28) rfl rfl rfl rfl ?_
    refine G_not (b' := true) (dj := 28) rfl rfl rfl rfl ?_
    refine L_val (v := .bool true) (y_pick_t (ev_tv rfl rfl) ev_c) ?_
    refine l_nil ?_
    refine then_norm ?_
    refine hK4 _ _ ?_
    clear hK4
    refine cond_t (ev_tv rfl rfl) ?_
    refine c_seq ?_
    intro K7 hK7
    refine c_region ?_
    refine L_val (v := .bool false) (y_assign ev_c) ?_
    refine l_nil ?_
    refine then_norm ?_
    refine hK7 _ _ ?_
    clear hK7
    refine c_ret ?_
    refine then_ret ?_
    exact body_1 rfl (ev_tv rfl rfl) H
  · replace H := H.2 hb5
    have hq6 : Value.bool (!decide ((x4 : Int) = 0)) = Value.bool false := congrArg Value.bool (ndec_f hb5)
    refine G_val (dj := 24) rfl rfl hq6 (v := .pointer x3) (y_move (ev_tv rfl rfl)) ?_
    refine G_val (dj := 24) rfl rfl hq6 (v := .bool (x3.isNone)) (y_peq Try.underlying23 (ev_tv rfl rfl) ev_c) ?_
    refine L_val (v := .bool (x3.isNone)) (y_pick_f (ev_tv rfl hq6) (ev_tv rfl rfl)) ?_
    refine L_val (v := .bool (x3.isNone)) (y_move (ev_tv rfl rfl)) ?_
    rcases (Classical.em (x3 = none)) with hb8 | hb8
    · replace H := H.1 hb8
      have hq9 : Value.bool (x3.isNone) = Value.bool true := congrArg Value.bool (isn_t hb8)
      refine G_not (b' := true) (dj := 28) rfl rfl hq9 rfl ?_
      refine G_not (b' := true) (dj := 28) rfl rfl hq9 rfl ?_
      refine L_val (v := .bool true) (y_pick_t (ev_tv rfl hq9) ev_c) ?_
      refine l_nil ?_
      refine then_norm ?_
      refine hK4 _ _ ?_
      clear hK4
      refine cond_t (ev_tv rfl rfl) ?_
      refine c_seq ?_
      intro K10 hK10
      refine c_region ?_
      refine L_val (v := .bool false) (y_assign ev_c) ?_
      refine l_nil ?_
      refine then_norm ?_
      refine hK10 _ _ ?_
      clear hK10
      refine c_ret ?_
      refine then_ret ?_
      exact body_1 rfl (ev_tv rfl rfl) H
    · replace H := H.2 hb8
      have hq9 : Value.bool (x3.isNone) = Value.bool false := congrArg Value.bool (isn_f hb8)
      refine G_call (dj := 28) rfl rfl hq9 (y_call Try.call7 map_ev0 ev_f) (Calls.mono H ?_)
      clear H
      rintro _ w8 ⟨x7, rfl, H⟩
      refine ⟨_, rfl, ?_⟩
      rcases Bool.eq_false_or_eq_true x7 with hb11 | hb11
      · replace H := H.1 hb11
        have hq12 : Value.bool (x7) = Value.bool true := congrArg Value.bool hb11
        refine G_val (dj := 28) rfl rfl hq9 (v := .bool false) (y_not_t (ev_tv rfl hq12)) ?_
        refine L_val (v := .bool false) (y_pick_f (ev_tv rfl hq9) (ev_tv rfl rfl)) ?_
        refine l_nil ?_
        refine then_norm ?_
        refine hK4 _ _ ?_
        clear hK4
        refine cond_f (ev_tv rfl rfl) ?_
        refine c_skip ?_
        refine then_norm ?_
        refine hK3 _ _ ?_
        clear hK3
        refine c_seq ?_
        intro K13 hK13
        refine c_region ?_
        refine L_val (v := .pointer x3) (y_move (ev_tv rfl rfl)) ?_
        refine L_val (v := .int .i64 a_room1) (y_move (ev_tv rfl rfl)) ?_
        refine L_call (y_call Try.call8 (map_ev2 (ev_tv rfl rfl) (ev_tv rfl rfl)) ev_f) (Calls.mono H ?_)
        clear H
        rintro _ w12 ⟨x10, x11, rfl, H⟩
        refine ⟨_, rfl, ?_⟩
        refine L_val (v := .tuple #[.pointer x10, .int .i64 x11]) (y_move (ev_tv rfl rfl)) ?_
        refine L_val (v := .pointer x10) (y_extract (ev_tv rfl rfl) rfl) ?_
        refine L_val (v := .int .i64 x11) (y_extract (ev_tv rfl rfl) rfl) ?_
        refine L_val (v := .pointer x10) (y_assign (ev_tv rfl rfl)) ?_
        refine L_val (v := .int .i64 x11) (y_assign (ev_tv rfl rfl)) ?_
        refine l_nil ?_
        refine then_norm ?_
        refine hK13 _ _ ?_
        clear hK13
        refine c_seq ?_
        intro K14 hK14
        refine c_seq ?_
        intro K15 hK15
        refine c_region ?_
        refine L_val (v := .int .i64 x11) (y_move (ev_tv rfl rfl)) ?_
        refine L_val (v := .bool (!decide ((x11 : Int) = 0))) (y_ine (ev_tv rfl rfl) ev_c) ?_
        refine L_val (v := .bool (!decide ((x11 : Int) = 0))) (y_move (ev_tv rfl rfl)) ?_
        rcases (Decidable.em ((x11 : Int) = 0)).symm with hb16 | hb16
        · replace H := H.1 hb16
          have hq17 : Value.bool (!decide ((x11 : Int) = 0)) = Value.bool true := congrArg Value.bool (ndec_t hb16)
          refine G_not (b' := true) (dj := 40) rfl rfl hq17 rfl ?_
          refine G_not (b' := true) (dj := 40) rfl rfl hq17 rfl ?_
          refine L_val (v := .bool true) (y_pick_t (ev_tv rfl hq17) ev_c) ?_
          refine l_nil ?_
          refine then_norm ?_
          refine hK15 _ _ ?_
          clear hK15
          refine cond_t (ev_tv rfl rfl) ?_
          refine c_seq ?_
          intro K18 hK18
          refine c_region ?_
          refine L_val (v := .pointer x10) (y_move (ev_tv rfl rfl)) ?_
          refine L_val (v := .bool (x10.isNone)) (y_peq Try.underlying28 (ev_tv rfl rfl) ev_c) ?_
          refine L_val (v := .bool (x10.isNone)) (y_assign (ev_tv rfl rfl)) ?_
          refine l_nil ?_
          refine then_norm ?_
          refine hK18 _ _ ?_
          clear hK18
          refine c_ret ?_
          refine then_ret ?_
          exact body_1 rfl (ev_tv rfl rfl) H
        · replace H := H.2 hb16
          have hq17 : Value.bool (!decide ((x11 : Int) = 0)) = Value.bool false := congrArg Value.bool (ndec_f hb16)
          refine G_val (dj := 40) rfl rfl hq17 (v := .pointer x10) (y_move (ev_tv rfl rfl)) ?_
          refine G_val (dj := 40) rfl rfl hq17 (v := .bool (x10.isNone)) (y_peq Try.underlying28 (ev_tv rfl rfl) ev_c) ?_
          refine L_val (v := .bool (x10.isNone)) (y_pick_f (ev_tv rfl hq17) (ev_tv rfl rfl)) ?_
          refine l_nil ?_
          refine then_norm ?_
          refine hK15 _ _ ?_
          clear hK15
          rcases (Classical.em (x10 = none)) with hb19 | hb19
          · replace H := H.1 hb19
            have hq20 : Value.bool (x10.isNone) = Value.bool true := congrArg Value.bool (isn_t hb19)
            refine cond_t (ev_tv rfl hq20) ?_
            refine c_seq ?_
            intro K21 hK21
            refine c_region ?_
            refine L_val (v := .pointer x10) (y_move (ev_tv rfl rfl)) ?_
            refine L_val (v := .bool (x10.isNone)) (y_peq Try.underlying28 (ev_tv rfl rfl) ev_c) ?_
            refine L_val (v := .bool (x10.isNone)) (y_assign (ev_tv rfl rfl)) ?_
            refine l_nil ?_
            refine then_norm ?_
            refine hK21 _ _ ?_
            clear hK21
            refine c_ret ?_
            refine then_ret ?_
            exact body_1 rfl (ev_tv rfl rfl) H
          · replace H := H.2 hb19
            have hq20 : Value.bool (x10.isNone) = Value.bool false := congrArg Value.bool (isn_f hb19)
            refine cond_f (ev_tv rfl hq20) ?_
            refine c_skip ?_
            refine then_norm ?_
            refine hK14 _ _ ?_
            clear hK14
            refine c_seq ?_
            intro K22 hK22
            refine c_seq ?_
            intro K23 hK23
            refine c_region ?_
            refine L_val (v := .int .i64 0) (y_assign ev_c) ?_
            refine l_nil ?_
            refine then_norm ?_
            refine hK23 _ _ ?_
            clear hK23
            refine c_block ?_
            obtain ⟨I24, ⟨m28, HI29⟩, H⟩ := H
            refine loop_fr ([(4, 4), (9, 17), (46, 130)]) (fun m ff ww => ∃ (v14 : Int), ff 9 = (.int .i64 v14 : Value) ∧ I24 m v14 ww) m28 ⟨0, rfl, HI29⟩ ?_
            rintro m15 f25 w16 hag26 ⟨v14, hs30, HI27⟩
            replace H := H m15 v14 w16 HI27
            refine c_seq ?_
            intro K31 hK31
            refine c_seq ?_
            intro K32 hK32
            refine c_region ?_
            refine L_val (v := .int .i64 v14) (y_move (ev_tv rfl hs30)) ?_
            refine L_val (v := .slice a_l2 a_l2l a_l2c) (y_move (ev_tv rfl ((hag26 1 rfl).trans rfl))) ?_
            refine L_val (v := .int .i64 ((a_l2l : Nat) : Int)) (y_len Try.underlying22 rfl (map_ev1 (ev_tv rfl rfl))) ?_
            refine L_val (v := .bool (decide ((v14 : Int) < ((a_l2l : Nat) : Int)))) (y_lss (ev_tv rfl rfl) (ev_tv rfl rfl)) ?_
            refine l_nil ?_
            refine then_norm ?_
            refine hK32 _ _ ?_
            clear hK32
            rcases (Decidable.em ((v14 : Int) < ((a_l2l : Nat) : Int))) with hb33 | hb33
            · replace H := H.1 hb33
              have hq34 : Value.bool (decide ((v14 : Int) < ((a_l2l : Nat) : Int))) = Value.bool true := congrArg Value.bool (decide_eq_true hb33)
              refine cond_t (ev_tv rfl hq34) ?_
              refine c_skip ?_
              refine then_norm ?_
              refine hK31 _ _ ?_
              clear hK31
              refine c_seq ?_
              intro K35 hK35
              refine c_block ?_
              refine c_seq ?_
              intro K36 hK36
              refine c_region ?_
              refine L_val (v := .slice a_l2 a_l2l a_l2c) (y_move (ev_tv rfl ((hag26 1 rfl).trans rfl))) ?_
              refine L_val (v := .int .i64 v14) (y_move (ev_tv rfl hs30)) ?_
              obtain ⟨b17, o18, rfl, H⟩ := H
              obtain ⟨hi37, hi38, H⟩ := H
              refine L_val (v := .pointer (some ⟨b17, o18 + (v14 : Int).toNat * 4, none⟩)) (y_ix Try.underlying22 Try.type32 rfl (ev_tv rfl rfl) (ev_tv rfl rfl) hi37 hi38) ?_
              obtain ⟨x19, x20, x21, x22, hc39, H⟩ := H
              refine L_val (v := .agg #[.int .i64 x19, .int .i64 x20, .int .u8 x21, .int .i64 x22]) (y_loadAgg Try.underlying32 rfl Try.type32 rfl (ev_tv rfl rfl) hc39) ?_
              obtain ⟨b23, hb40⟩ : ∃ b23 : Nat, b23 = World.heapSize w16 := ⟨_, rfl⟩
              obtain ⟨w24, hw41⟩ : ∃ w24 : World, w24 = World.alloc w16 (.cells #[.int .i64 0, .int .i64 0, .int .u8 0, .int .i64 0] 32) := ⟨_, rfl⟩
              replace H := H b23 w24 hb40 hw41
              refine L_val (v := .pointer (some ⟨b23, 0, none⟩)) (y_alloc Try.type32 rfl rfl hb40 hw41) ?_
              obtain ⟨hc42, H⟩ := H
              obtain ⟨w25, hw44⟩ : ∃ w25 : World, w25 = putCells w24 ⟨b23, 0, none⟩ [.int .i64 x19, .int .i64 x20, .int .u8 x21, .int .i64 x22] 0 := ⟨_, rfl⟩
              replace H := H w25 hw44
              refine L_skip (y_storeAgg Try.type32 rfl (by intro v hv; simp only [List.mem_cons, List.not_mem_nil, or_false] at hv; rcases hv with rfl | rfl | rfl | rfl <;> rfl) (ev_tv rfl rfl) (ev_tv rfl rfl) hc42 hw44) ?_
              refine l_nil ?_
              refine then_norm ?_
              refine hK36 _ _ ?_
              clear hK36
              refine c_seq ?_
              intro K45 hK45
              refine c_region ?_
              refine L_val (v := .pointer x10) (y_move (ev_tv rfl ((hag26 7 rfl).trans rfl))) ?_
              refine L_call (y_call Try.call15 (map_ev1 (ev_tv rfl rfl)) ev_f) (Calls.mono H ?_)
              clear H
              rintro _ w27 ⟨x26, x26l, x26c, rfl, H⟩
              refine ⟨_, rfl, ?_⟩
              refine L_val (v := .slice x26 x26l x26c) (y_assign (ev_tv rfl rfl)) ?_
              refine l_nil ?_
              refine then_norm ?_
              refine hK45 _ _ ?_
              clear hK45
              obtain ⟨J46, hJ47, H⟩ := H
              refine c_seqJ [(58, 78)] (fun ff ww => J46  ww) ?_ ?_
              · clear hJ47
                intro K51 hK51
                refine c_seq ?_
                intro K153 hK153
                refine c_region ?_
                refine L_val (v := .pointer (some ⟨b23, 0, none⟩)) (Try.fa32_0 (ev_tv rfl rfl)) ?_
                obtain ⟨x69, hc154, H⟩ := H
                refine L_val (v := .int .i64 x69) (y_load Try.underlying3 rfl (ev_tv rfl rfl) hc154) ?_
                refine l_nil ?_
                refine then_norm ?_
                refine hK153 _ _ ?_
                clear hK153
                refine c_block ?_
                refine c_seq ?_
                intro K155 hK155
                refine c_region ?_
                refine L_val (v := .bool (decide ((x69 : Int) = 1))) (y_ieq (ev_tv rfl rfl) ev_c) ?_
                refine L_val (v := .bool (decide ((x69 : Int) = 1))) (y_assign (ev_tv rfl rfl)) ?_
                refine l_nil ?_
                refine then_norm ?_
                refine hK155 _ _ ?_
                clear hK155
                rcases (Decidable.em ((x69 : Int) = 1)) with hb156 | hb156
                · replace H := H.1 hb156
                  have hq157 : Value.bool (decide ((x69 : Int) = 1)) = Value.bool true := congrArg Value.bool (decide_eq_true hb156)
                  refine cond_t (ev_tv rfl hq157) ?_
                  refine c_region ?_
                  refine L_val (v := .pointer x10) (y_move (ev_tv rfl ((hag26 7 rfl).trans rfl))) ?_
                  refine L_val (v := .pointer (some ⟨b23, 0 + 1, none⟩)) (Try.fa32_1 (ev_tv rfl rfl)) ?_
                  obtain ⟨x70, hc158, H⟩ := H
                  refine L_val (v := .int .i64 x70) (y_load Try.underlying3 rfl (ev_tv rfl rfl) hc158) ?_
                  refine L_call (y_call Try.call9 (map_ev2 (ev_tv rfl rfl) (ev_tv rfl rfl)) ev_f) (Calls.mono H ?_)
                  clear H
                  rintro _ w73 ⟨x71, x71l, x71c, x72, rfl, H⟩
                  refine ⟨_, rfl, ?_⟩
                  refine l_nil ?_
                  refine block_norm ?_
                  refine then_norm ?_
                  exact hK51 _ _ (by repeat (first | exact agree_refl | exact hag26 | refine agree_upd rfl ?_ | refine agree_via hag26 rfl ?_)) H
                · replace H := H.2 hb156
                  have hq157 : Value.bool (decide ((x69 : Int) = 1)) = Value.bool false := congrArg Value.bool (decide_eq_false hb156)
                  refine cond_f (ev_tv rfl hq157) ?_
                  refine c_seq ?_
                  intro K159 hK159
                  refine c_region ?_
                  refine L_val (v := .bool (decide ((x69 : Int) = 2))) (y_ieq (ev_tv rfl rfl) ev_c) ?_
                  refine L_val (v := .bool (decide ((x69 : Int) = 2))) (y_assign (ev_tv rfl rfl)) ?_
                  refine l_nil ?_
                  refine then_norm ?_
                  refine hK159 _ _ ?_
                  clear hK159
                  rcases (Decidable.em ((x69 : Int) = 2)) with hb160 | hb160
                  · replace H := H.1 hb160
                    have hq161 : Value.bool (decide ((x69 : Int) = 2)) = Value.bool true := congrArg Value.bool (decide_eq_true hb160)
                    refine cond_t (ev_tv rfl hq161) ?_
                    refine D_start Try.mixed rfl [5, 6] ?_
                    refine start_keep fun hS => ?_
                    refine D_pure (i := 0) (v := .pointer x10) rfl (by kernel_rfl) (W_none rfl) (fun _ => y_move (ev_tv rfl ((hag26 7 rfl).trans rfl))) hS ?_
                    intro hS
                    refine D_pure (i := 1) (v := .pointer (some ⟨b23, 0 + 1, none⟩)) rfl (by kernel_rfl) (W_none rfl) (fun _ => Try.fa32_1 (ev_tv rfl rfl)) hS ?_
                    intro hS
                    refine D_pure (i := 3) (v := .pointer (some ⟨b23, 0 + 2, none⟩)) rfl (by kernel_rfl) (W_none rfl) (fun _ => Try.fa32_2 (ev_tv rfl rfl)) hS ?_
                    intro hS
                    obtain ⟨x75, hc162, H⟩ := H
                    refine D_read (i := 2) (v := .int .i64 x75) rfl (by kernel_rfl) (W_none rfl) (fun wx => World.cell? wx ⟨b23, 0 + 1, none⟩ = some (.int .i64 x75)) hc162 (fun _ hcx => y_load Try.underlying3 rfl (ev_tv rfl rfl) hcx) hS ?_
                    intro hS
                    obtain ⟨x76, hc163, H⟩ := H
                    refine D_read (i := 4) (v := .int .u8 x76) rfl (by kernel_rfl) (W_none rfl) (fun wx => World.cell? wx ⟨b23, 0 + 2, none⟩ = some (.int .u8 x76)) hc163 (fun _ hcx => y_load Try.underlying5 rfl (ev_tv rfl rfl) hcx) hS ?_
                    intro hS
                    refine D_only (i := 5) (by kernel_rfl) rfl ?_
                    refine O_call (i := 5) rfl (W_none rfl) (y_call Try.call12 (map_ev2 (ev_tv rfl rfl) ev_c) ev_f) (Calls.mono H ?_)
                    clear H
                    rintro _ w78 ⟨x77, x77l, x77c, rfl, H⟩
                    refine ⟨_, rfl, ?_⟩
                    obtain ⟨hs164, H⟩ := H
                    refine and_keep (SS_off (by kernel_rfl) (SS_on hs164 SS_nil)) fun hS => ?_
                    refine D_only (i := 6) (by kernel_rfl) rfl ?_
                    refine O_call (i := 6) rfl (W_none rfl) (y_call Try.call11 (map_ev3 (ev_tv rfl rfl) (ev_tv rfl rfl) (ev_tv rfl rfl)) ev_f) (Calls.mono H ?_)
                    clear H
                    rintro _ w80 ⟨x79, rfl, H⟩
                    refine ⟨_, rfl, ?_⟩
                    refine and_keep (SS_off (by kernel_rfl) (SS_off (by kernel_rfl) SS_nil)) fun hS => ?_
                    refine D_done (by kernel_rfl) ?_
                    refine block_norm ?_
                    refine then_norm ?_
                    exact hK51 _ _ (by repeat (first | exact agree_refl | exact hag26 | refine agree_upd rfl ?_ | refine agree_via hag26 rfl ?_)) H
                  · replace H := H.2 hb160
                    have hq161 : Value.bool (decide ((x69 : Int) = 2)) = Value.bool false := congrArg Value.bool (decide_eq_false hb160)
                    refine cond_f (ev_tv rfl hq161) ?_
                    refine c_seq ?_
                    intro K165 hK165
                    refine c_region ?_
                    refine L_val (v := .bool (decide ((x69 : Int) = 4))) (y_ieq (ev_tv rfl rfl) ev_c) ?_
                    refine L_val (v := .bool (decide ((x69 : Int) = 4))) (y_assign (ev_tv rfl rfl)) ?_
                    refine l_nil ?_
                    refine then_norm ?_
                    refine hK165 _ _ ?_
                    clear hK165
                    rcases (Decidable.em ((x69 : Int) = 4)) with hb166 | hb166
                    · replace H := H.1 hb166
                      have hq167 : Value.bool (decide ((x69 : Int) = 4)) = Value.bool true := congrArg Value.bool (decide_eq_true hb166)
                      refine cond_t (ev_tv rfl hq167) ?_
                      refine c_region ?_
                      refine L_val (v := .pointer x10) (y_move (ev_tv rfl ((hag26 7 rfl).trans rfl))) ?_
                      refine L_call (y_call Try.call14 (map_ev1 (ev_tv rfl rfl)) ev_f) (Calls.mono H ?_)
                      clear H
                      rintro _ w82 ⟨x81, rfl, H⟩
                      refine ⟨_, rfl, ?_⟩
                      refine l_nil ?_
                      refine block_norm ?_
                      refine then_norm ?_
                      exact hK51 _ _ (by repeat (first | exact agree_refl | exact hag26 | refine agree_upd rfl ?_ | refine agree_via hag26 rfl ?_)) H
                    · replace H := H.2 hb166
                      have hq167 : Value.bool (decide ((x69 : Int) = 4)) = Value.bool false := congrArg Value.bool (decide_eq_false hb166)
                      refine cond_f (ev_tv rfl hq167) ?_
                      refine c_skip ?_
                      refine block_norm ?_
                      refine then_norm ?_
                      exact hK51 _ _ (by repeat (first | exact agree_refl | exact hag26 | refine agree_upd rfl ?_ | refine agree_via hag26 rfl ?_)) H
              · clear H
                intro f48 w29 hag49 HJ50
                have H := hJ47  w29 HJ50
                clear hJ47
                refine c_seq ?_
                intro K52 hK52
                refine c_region ?_
                refine L_val (v := .pointer x10) (y_move (ev_tv rfl ((hag49 7 rfl).trans ((hag26 7 rfl).trans rfl)))) ?_
                refine L_call (y_call Try.call16 (map_ev1 (ev_tv rfl rfl)) ev_f) (Calls.mono H ?_)
                clear H
                rintro _ w31 ⟨x30, x30l, x30c, rfl, H⟩
                refine ⟨_, rfl, ?_⟩
                refine L_val (v := .slice x30 x30l x30c) (y_assign (ev_tv rfl rfl)) ?_
                refine l_nil ?_
                refine then_norm ?_
                refine hK52 _ _ ?_
                clear hK52
                refine c_seq ?_
                intro K53 hK53
                refine c_seq ?_
                intro K54 hK54
                refine c_region ?_
                refine L_val (v := .slice x30 x30l x30c) (y_move (ev_tv rfl rfl)) ?_
                refine L_val (v := .int .i64 ((x30l : Nat) : Int)) (y_len Try.underlying43 rfl (map_ev1 (ev_tv rfl rfl))) ?_
                refine L_val (v := .int .i64 a_room1) (y_move (ev_tv rfl ((hag49 0 rfl).trans ((hag26 0 rfl).trans rfl)))) ?_
                refine L_val (v := .bool (decide ((a_room1 : Int) < ((x30l : Nat) : Int)))) (y_gtr (ev_tv rfl rfl) (ev_tv rfl rfl)) ?_
                refine l_nil ?_
                refine then_norm ?_
                refine hK54 _ _ ?_
                clear hK54
                rcases (Decidable.em ((a_room1 : Int) < ((x30l : Nat) : Int))) with hb55 | hb55
                · replace H := H.1 hb55
                  have hq56 : Value.bool (decide ((a_room1 : Int) < ((x30l : Nat) : Int))) = Value.bool true := congrArg Value.bool (decide_eq_true hb55)
                  refine cond_t (ev_tv rfl hq56) ?_
                  refine c_seq ?_
                  intro K57 hK57
                  refine c_region ?_
                  refine L_val (v := .bool false) (y_assign ev_c) ?_
                  refine l_nil ?_
                  refine then_norm ?_
                  refine hK57 _ _ ?_
                  clear hK57
                  refine c_ret ?_
                  refine then_ret ?_
                  refine block_ret ?_
                  refine then_ret ?_
                  refine then_ret ?_
                  refine block_ret ?_
                  refine then_ret ?_
                  exact body_1 rfl (ev_tv rfl rfl) H
                · replace H := H.2 hb55
                  have hq56 : Value.bool (decide ((a_room1 : Int) < ((x30l : Nat) : Int))) = Value.bool false := congrArg Value.bool (decide_eq_false hb55)
                  refine cond_f (ev_tv rfl hq56) ?_
                  refine c_skip ?_
                  refine then_norm ?_
                  refine hK53 _ _ ?_
                  clear hK53
                  obtain ⟨J58, hJ59, H⟩ := H
                  refine c_seqJ [(4, 4), (13, 14), (85, 104)] (fun ff ww => J58  ww) ?_ ?_
                  · clear hJ59
                    intro K63 hK63
                    refine c_seq ?_
                    intro K113 hK113
                    refine c_region ?_
                    refine L_val (v := .int .i64 0) (y_assign ev_c) ?_
                    refine l_nil ?_
                    refine then_norm ?_
                    refine hK113 _ _ ?_
                    clear hK113
                    refine c_block ?_
                    obtain ⟨I114, ⟨m118, HI119⟩, H⟩ := H
                    refine loop_fr ([(4, 4), (13, 14), (85, 104)]) (fun m ff ww => ∃ (v55 : Int), ff 13 = (.int .i64 v55 : Value) ∧ I114 m v55 ww) m118 ⟨0, rfl, HI119⟩ ?_
                    rintro m56 f115 w57 hag116 ⟨v55, hs120, HI117⟩
                    replace H := H m56 v55 w57 HI117
                    refine c_seq ?_
                    intro K121 hK121
                    refine c_seq ?_
                    intro K122 hK122
                    refine c_region ?_
                    refine L_val (v := .int .i64 v55) (y_move (ev_tv rfl hs120)) ?_
                    refine L_val (v := .slice x30 x30l x30c) (y_move (ev_tv rfl ((hag116 12 rfl).trans rfl))) ?_
                    refine L_val (v := .int .i64 ((x30l : Nat) : Int)) (y_len Try.underlying43 rfl (map_ev1 (ev_tv rfl rfl))) ?_
                    refine L_val (v := .bool (decide ((v55 : Int) < ((x30l : Nat) : Int)))) (y_lss (ev_tv rfl rfl) (ev_tv rfl rfl)) ?_
                    refine l_nil ?_
                    refine then_norm ?_
                    refine hK122 _ _ ?_
                    clear hK122
                    rcases (Decidable.em ((v55 : Int) < ((x30l : Nat) : Int))) with hb123 | hb123
                    · replace H := H.1 hb123
                      have hq124 : Value.bool (decide ((v55 : Int) < ((x30l : Nat) : Int))) = Value.bool true := congrArg Value.bool (decide_eq_true hb123)
                      refine cond_t (ev_tv rfl hq124) ?_
                      refine c_skip ?_
                      refine then_norm ?_
                      refine hK121 _ _ ?_
                      clear hK121
                      refine c_seq ?_
                      intro K125 hK125
                      refine c_block ?_
                      refine c_seq ?_
                      intro K126 hK126
                      refine c_region ?_
                      refine L_val (v := .int .i64 0) (y_assign ev_c) ?_
                      refine l_nil ?_
                      refine then_norm ?_
                      refine hK126 _ _ ?_
                      clear hK126
                      refine c_block ?_
                      obtain ⟨I127, ⟨m131, HI132⟩, H⟩ := H
                      refine loop_fr ([(4, 4), (14, 14), (91, 104)]) (fun m ff ww => ∃ (v58 : Int), ff 14 = (.int .i64 v58 : Value) ∧ I127 m v58 ww) m131 ⟨0, rfl, HI132⟩ ?_
                      rintro m59 f128 w60 hag129 ⟨v58, hs133, HI130⟩
                      replace H := H m59 v58 w60 HI130
                      refine c_seq ?_
                      intro K134 hK134
                      refine c_seq ?_
                      intro K135 hK135
                      refine c_region ?_
                      refine L_val (v := .int .i64 v58) (y_move (ev_tv rfl hs133)) ?_
                      refine L_val (v := .int .i64 v55) (y_move (ev_tv rfl ((hag129 13 rfl).trans hs120))) ?_
                      refine L_val (v := .bool (decide ((v58 : Int) < v55))) (y_lss (ev_tv rfl rfl) (ev_tv rfl rfl)) ?_
                      refine l_nil ?_
                      refine then_norm ?_
                      refine hK135 _ _ ?_
                      clear hK135
                      rcases (Decidable.em ((v58 : Int) < v55)) with hb136 | hb136
                      · replace H := H.1 hb136
                        have hq137 : Value.bool (decide ((v58 : Int) < v55)) = Value.bool true := congrArg Value.bool (decide_eq_true hb136)
                        refine cond_t (ev_tv rfl hq137) ?_
                        refine c_skip ?_
                        refine then_norm ?_
                        refine hK134 _ _ ?_
                        clear hK134
                        refine c_seq ?_
                        intro K138 hK138
                        refine c_block ?_
                        refine c_seq ?_
                        intro K139 hK139
                        refine D_start Try.mixed rfl [] ?_
                        refine start_keep fun hS => ?_
                        refine D_pure (i := 0) (v := .slice x30 x30l x30c) rfl (by kernel_rfl) (W_none rfl) (fun _ => y_move (ev_tv rfl ((hag129 12 rfl).trans ((hag116 12 rfl).trans rfl)))) hS ?_
                        intro hS
                        refine D_pure (i := 1) (v := .int .i64 v58) rfl (by kernel_rfl) (W_none rfl) (fun _ => y_move (ev_tv rfl hs133)) hS ?_
                        intro hS
                        obtain ⟨b61, o62, rfl, H⟩ := H
                        obtain ⟨hi140, hi141, H⟩ := H
                        refine D_pure (i := 2) (v := .pointer (some ⟨b61, o62 + (v58 : Int).toNat, none⟩)) rfl (by kernel_rfl) (W_none rfl) (fun _ => y_ix1 Try.underlying43 Try.type3 rfl (ev_tv rfl rfl) (ev_tv rfl rfl) hi140 hi141) hS ?_
                        intro hS
                        refine D_pure (i := 4) (v := .slice (some ⟨b61, o62, none⟩) x30l x30c) rfl (by kernel_rfl) (W_none rfl) (fun _ => y_move (ev_tv rfl ((hag129 12 rfl).trans ((hag116 12 rfl).trans rfl)))) hS ?_
                        intro hS
                        refine D_pure (i := 5) (v := .int .i64 v55) rfl (by kernel_rfl) (W_none rfl) (fun _ => y_move (ev_tv rfl ((hag129 13 rfl).trans hs120))) hS ?_
                        intro hS
                        obtain ⟨hi142, hi143, H⟩ := H
                        refine D_pure (i := 6) (v := .pointer (some ⟨b61, o62 + (v55 : Int).toNat, none⟩)) rfl (by kernel_rfl) (W_none rfl) (fun _ => y_ix1 Try.underlying43 Try.type3 rfl (ev_tv rfl rfl) (ev_tv rfl rfl) hi142 hi143) hS ?_
                        intro hS
                        obtain ⟨x63, hc144, H⟩ := H
                        refine D_read (i := 3) (v := .int .i64 x63) rfl (by kernel_rfl) (W_none rfl) (fun wx => World.cell? wx ⟨b61, o62 + (v58 : Int).toNat, none⟩ = some (.int .i64 x63)) hc144 (fun _ hcx => y_load Try.underlying3 rfl (ev_tv rfl rfl) hcx) hS ?_
                        intro hS
                        obtain ⟨x64, hc145, H⟩ := H
                        refine D_read (i := 7) (v := .int .i64 x64) rfl (by kernel_rfl) (W_none rfl) (fun wx => World.cell? wx ⟨b61, o62 + (v55 : Int).toNat, none⟩ = some (.int .i64 x64)) hc145 (fun _ hcx => y_load Try.underlying3 rfl (ev_tv rfl rfl) hcx) hS ?_
                        intro hS
                        refine D_pure (i := 8) (v := .bool (decide ((x63 : Int) = x64))) rfl (by kernel_rfl) (W_none rfl) (fun _ => y_ieq (ev_tv rfl rfl) (ev_tv rfl rfl)) hS ?_
                        intro hS
                        refine D_done (by kernel_rfl) ?_
                        refine then_norm ?_
                        refine hK139 _ _ ?_
                        clear hK139
                        rcases (Decidable.em ((x63 : Int) = x64)) with hb146 | hb146
                        · replace H := H.1 hb146
                          have hq147 : Value.bool (decide ((x63 : Int) = x64)) = Value.bool true := congrArg Value.bool (decide_eq_true hb146)
                          refine cond_t (ev_tv rfl hq147) ?_
                          refine c_seq ?_
                          intro K148 hK148
                          refine c_region ?_
                          refine L_val (v := .bool false) (y_assign ev_c) ?_
                          refine l_nil ?_
                          refine then_norm ?_
                          refine hK148 _ _ ?_
                          clear hK148
                          refine c_ret ?_
                          refine block_ret ?_
                          refine then_ret ?_
                          refine then_ret ?_
                          refine block_ret ?_
                          refine block_ret ?_
                          refine then_ret ?_
                          refine then_ret ?_
                          refine block_ret ?_
                          refine then_ret ?_
                          refine block_ret ?_
                          refine then_ret ?_
                          refine then_ret ?_
                          refine block_ret ?_
                          refine then_ret ?_
                          exact body_1 rfl (ev_tv rfl rfl) H
                        · replace H := H.2 hb146
                          have hq147 : Value.bool (decide ((x63 : Int) = x64)) = Value.bool false := congrArg Value.bool (decide_eq_false hb146)
                          refine cond_f (ev_tv rfl hq147) ?_
                          refine c_skip ?_
                          refine block_norm ?_
                          refine then_norm ?_
                          refine hK138 _ _ ?_
                          clear hK138
                          refine c_region ?_
                          refine L_val (v := .int .i64 v58) (y_move (ev_tv rfl hs133)) ?_
                          obtain ⟨r65, hr149⟩ : ∃ r65 : Int, r65 = IntKind.wrap .i64 (v58 + 1) := ⟨_, rfl⟩
                          replace H := H r65 hr149
                          refine L_val (v := .int .i64 r65) (y_add (ev_tv rfl rfl) ev_c hr149) ?_
                          refine L_val (v := .int .i64 r65) (y_assign (ev_tv rfl rfl)) ?_
                          refine l_nil ?_
                          refine then_norm ?_
                          obtain ⟨m66, hm150, H⟩ := H
                          exact ⟨_, rfl, (by repeat (first | exact agree_refl | exact hag129 | exact hag116 | exact hag49 | exact hag26 | refine agree_upd rfl ?_ | refine agree_via hag129 rfl ?_ | refine agree_via hag116 rfl ?_ | refine agree_via hag49 rfl ?_ | refine agree_via hag26 rfl ?_)), m66, hm150, _, rfl, H⟩
                      · replace H := H.2 hb136
                        have hq137 : Value.bool (decide ((v58 : Int) < v55)) = Value.bool false := congrArg Value.bool (decide_eq_false hb136)
                        refine cond_f (ev_tv rfl hq137) ?_
                        refine c_exit ?_
                        refine then_exit ?_
                        refine then_exit ?_
                        refine block_hit ?_
                        refine block_norm ?_
                        refine then_norm ?_
                        refine hK125 _ _ ?_
                        clear hK125
                        refine c_region ?_
                        refine L_val (v := .int .i64 v55) (y_move (ev_tv rfl ((hag129 13 rfl).trans hs120))) ?_
                        obtain ⟨r67, hr151⟩ : ∃ r67 : Int, r67 = IntKind.wrap .i64 (v55 + 1) := ⟨_, rfl⟩
                        replace H := H r67 hr151
                        refine L_val (v := .int .i64 r67) (y_add (ev_tv rfl rfl) ev_c hr151) ?_
                        refine L_val (v := .int .i64 r67) (y_assign (ev_tv rfl rfl)) ?_
                        refine l_nil ?_
                        refine then_norm ?_
                        obtain ⟨m68, hm152, H⟩ := H
                        exact ⟨_, rfl, (by repeat (first | exact agree_refl | exact hag129 | exact hag116 | exact hag49 | exact hag26 | refine agree_upd rfl ?_ | refine agree_via hag129 rfl ?_ | refine agree_via hag116 rfl ?_ | refine agree_via hag49 rfl ?_ | refine agree_via hag26 rfl ?_)), m68, hm152, _, rfl, H⟩
                    · replace H := H.2 hb123
                      have hq124 : Value.bool (decide ((v55 : Int) < ((x30l : Nat) : Int))) = Value.bool false := congrArg Value.bool (decide_eq_false hb123)
                      refine cond_f (ev_tv rfl hq124) ?_
                      refine c_exit ?_
                      refine then_exit ?_
                      refine then_exit ?_
                      refine block_hit ?_
                      refine then_norm ?_
                      exact hK63 _ _ (by repeat (first | exact agree_refl | exact hag116 | exact hag49 | exact hag26 | refine agree_upd rfl ?_ | refine agree_via hag116 rfl ?_ | refine agree_via hag49 rfl ?_ | refine agree_via hag26 rfl ?_)) H
                  · clear H
                    intro f60 w33 hag61 HJ62
                    have H := hJ59  w33 HJ62
                    clear hJ59
                    refine c_seq ?_
                    intro K64 hK64
                    refine c_region ?_
                    refine L_val (v := .int .i64 0) (y_assign ev_c) ?_
                    refine l_nil ?_
                    refine then_norm ?_
                    refine hK64 _ _ ?_
                    clear hK64
                    refine c_block ?_
                    obtain ⟨I65, ⟨m69, HI70⟩, H⟩ := H
                    refine loop_fr ([(4, 4), (15, 17), (105, 130)]) (fun m ff ww => ∃ (v34 : Int), ff 15 = (.int .i64 v34 : Value) ∧ I65 m v34 ww) m69 ⟨0, rfl, HI70⟩ ?_
                    rintro m35 f66 w36 hag67 ⟨v34, hs71, HI68⟩
                    replace H := H m35 v34 w36 HI68
                    refine c_seq ?_
                    intro K72 hK72
                    refine c_seq ?_
                    intro K73 hK73
                    refine c_region ?_
                    refine L_val (v := .int .i64 v34) (y_move (ev_tv rfl hs71)) ?_
                    refine L_val (v := .slice x26 x26l x26c) (y_move (ev_tv rfl ((hag67 11 rfl).trans ((hag61 11 rfl).trans ((hag49 11 rfl).trans rfl))))) ?_
                    refine L_val (v := .int .i64 ((x26l : Nat) : Int)) (y_len Try.underlying43 rfl (map_ev1 (ev_tv rfl rfl))) ?_
                    refine L_val (v := .bool (decide ((v34 : Int) < ((x26l : Nat) : Int)))) (y_lss (ev_tv rfl rfl) (ev_tv rfl rfl)) ?_
                    refine l_nil ?_
                    refine then_norm ?_
                    refine hK73 _ _ ?_
                    clear hK73
                    rcases (Decidable.em ((v34 : Int) < ((x26l : Nat) : Int))) with hb74 | hb74
                    · replace H := H.1 hb74
                      have hq75 : Value.bool (decide ((v34 : Int) < ((x26l : Nat) : Int))) = Value.bool true := congrArg Value.bool (decide_eq_true hb74)
                      refine cond_t (ev_tv rfl hq75) ?_
                      refine c_skip ?_
                      refine then_norm ?_
                      refine hK72 _ _ ?_
                      clear hK72
                      refine c_seq ?_
                      intro K76 hK76
                      refine c_block ?_
                      refine c_seq ?_
                      intro K77 hK77
                      refine c_region ?_
                      refine L_val (v := .bool false) (y_assign ev_c) ?_
                      refine l_nil ?_
                      refine then_norm ?_
                      refine hK77 _ _ ?_
                      clear hK77
                      refine c_seq ?_
                      intro K78 hK78
                      refine c_seq ?_
                      intro K79 hK79
                      refine c_region ?_
                      refine L_val (v := .int .i64 0) (y_assign ev_c) ?_
                      refine l_nil ?_
                      refine then_norm ?_
                      refine hK79 _ _ ?_
                      clear hK79
                      refine c_block ?_
                      obtain ⟨I80, ⟨m84, HI85⟩, H⟩ := H
                      refine loop_fr ([(16, 17), (111, 128)]) (fun m ff ww => ∃ (v37 : Bool) (v38 : Int), ff 16 = (.bool v37 : Value) ∧ ff 17 = (.int .i64 v38 : Value) ∧ I80 m v37 v38 ww) m84 ⟨false, 0, rfl, rfl, HI85⟩ ?_
                      rintro m39 f81 w40 hag82 ⟨v37, v38, hs86, hs87, HI83⟩
                      replace H := H m39 v37 v38 w40 HI83
                      refine c_seq ?_
                      intro K88 hK88
                      refine c_seq ?_
                      intro K89 hK89
                      refine c_region ?_
                      refine L_val (v := .int .i64 v38) (y_move (ev_tv rfl hs87)) ?_
                      refine L_val (v := .slice x30 x30l x30c) (y_move (ev_tv rfl ((hag82 12 rfl).trans ((hag67 12 rfl).trans ((hag61 12 rfl).trans rfl))))) ?_
                      refine L_val (v := .int .i64 ((x30l : Nat) : Int)) (y_len Try.underlying43 rfl (map_ev1 (ev_tv rfl rfl))) ?_
                      refine L_val (v := .bool (decide ((v38 : Int) < ((x30l : Nat) : Int)))) (y_lss (ev_tv rfl rfl) (ev_tv rfl rfl)) ?_
                      refine l_nil ?_
                      refine then_norm ?_
                      refine hK89 _ _ ?_
                      clear hK89
                      rcases (Decidable.em ((v38 : Int) < ((x30l : Nat) : Int))) with hb90 | hb90
                      · replace H := H.1 hb90
                        have hq91 : Value.bool (decide ((v38 : Int) < ((x30l : Nat) : Int))) = Value.bool true := congrArg Value.bool (decide_eq_true hb90)
                        refine cond_t (ev_tv rfl hq91) ?_
                        refine c_skip ?_
                        refine then_norm ?_
                        refine hK88 _ _ ?_
                        clear hK88
                        refine c_seq ?_
                        intro K92 hK92
                        refine c_block ?_
                        refine D_start Try.mixed rfl [] ?_
                        refine start_keep fun hS => ?_
                        refine D_pure (i := 0) (v := .bool v37) rfl (by kernel_rfl) (W_none rfl) (fun _ => y_move (ev_tv rfl hs86)) hS ?_
                        intro hS
                        refine D_pure (i := 1) (v := .bool v37) rfl (by kernel_rfl) (W_none rfl) (fun _ => y_move (ev_tv rfl rfl)) hS ?_
                        intro hS
                        rcases Bool.eq_false_or_eq_true v37 with hb93 | hb93
                        · replace H := H.1 hb93
                          have hq94 : Value.bool (v37) = Value.bool true := congrArg Value.bool hb93
                          refine D_not (i := 2) rfl (by kernel_rfl) (W_no (dj := 118) (b' := true) rfl rfl rfl hq94 rfl) hS ?_
                          intro hS
                          refine D_not (i := 3) rfl (by kernel_rfl) (W_no (dj := 118) (b' := true) rfl rfl rfl hq94 rfl) hS ?_
                          intro hS
                          refine D_not (i := 4) rfl (by kernel_rfl) (W_no (dj := 118) (b' := true) rfl rfl rfl hq94 rfl) hS ?_
                          intro hS
                          refine D_not (i := 5) rfl (by kernel_rfl) (W_no (dj := 118) (b' := true) rfl rfl rfl hq94 rfl) hS ?_
                          intro hS
                          refine D_not (i := 6) rfl (by kernel_rfl) (W_no (dj := 118) (b' := true) rfl rfl rfl hq94 rfl) hS ?_
                          intro hS
                          refine D_not (i := 7) rfl (by kernel_rfl) (W_no (dj := 118) (b' := true) rfl rfl rfl hq94 rfl) hS ?_
                          intro hS
                          refine D_not (i := 8) rfl (by kernel_rfl) (W_no (dj := 118) (b' := true) rfl rfl rfl hq94 rfl) hS ?_
                          intro hS
                          refine D_not (i := 9) rfl (by kernel_rfl) (W_no (dj := 118) (b' := true) rfl rfl rfl hq94 rfl) hS ?_
                          intro hS
                          refine D_not (i := 10) rfl (by kernel_rfl) (W_no (dj := 118) (b' := true) rfl rfl rfl hq94 rfl) hS ?_
                          intro hS
                          refine D_pure (i := 11) (v := .bool true) rfl (by kernel_rfl) (W_none rfl) (fun _ => y_pick_t (ev_tv rfl hq94) ev_c) hS ?_
                          intro hS
                          refine D_pure (i := 12) (v := .bool true) rfl (by kernel_rfl) (W_none rfl) (fun _ => y_assign (ev_tv rfl rfl)) hS ?_
                          intro hS
                          refine D_done (by kernel_rfl) ?_
                          refine block_norm ?_
                          refine then_norm ?_
                          refine hK92 _ _ ?_
                          clear hK92
                          refine c_region ?_
                          refine L_val (v := .int .i64 v38) (y_move (ev_tv rfl hs87)) ?_
                          obtain ⟨r41, hr95⟩ : ∃ r41 : Int, r41 = IntKind.wrap .i64 (v38 + 1) := ⟨_, rfl⟩
                          replace H := H r41 hr95
                          refine L_val (v := .int .i64 r41) (y_add (ev_tv rfl rfl) ev_c hr95) ?_
                          refine L_val (v := .int .i64 r41) (y_assign (ev_tv rfl rfl)) ?_
                          refine l_nil ?_
                          refine then_norm ?_
                          obtain ⟨m42, hm96, H⟩ := H
                          exact ⟨_, rfl, (by repeat (first | exact agree_refl | exact hag82 | exact hag67 | exact hag61 | exact hag49 | exact hag26 | refine agree_upd rfl ?_ | refine agree_via hag82 rfl ?_ | refine agree_via hag67 rfl ?_ | refine agree_via hag61 rfl ?_ | refine agree_via hag49 rfl ?_ | refine agree_via hag26 rfl ?_)), m42, hm96, _, _, rfl, rfl, H⟩
                        · replace H := H.2 hb93
                          have hq94 : Value.bool (v37) = Value.bool false := congrArg Value.bool hb93
                          refine D_pure (i := 2) (v := .slice x30 x30l x30c) rfl (by kernel_rfl) (W_yes (dj := 118) rfl rfl rfl hq94) (fun _ => y_move (ev_tv rfl ((hag82 12 rfl).trans ((hag67 12 rfl).trans ((hag61 12 rfl).trans rfl))))) hS ?_
                          intro hS
                          refine D_pure (i := 3) (v := .int .i64 v38) rfl (by kernel_rfl) (W_yes (dj := 118) rfl rfl rfl hq94) (fun _ => y_move (ev_tv rfl hs87)) hS ?_
                          intro hS
                          obtain ⟨b43, o44, rfl, H⟩ := H
                          obtain ⟨hi97, hi98, H⟩ := H
                          refine D_pure (i := 4) (v := .pointer (some ⟨b43, o44 + (v38 : Int).toNat, none⟩)) rfl (by kernel_rfl) (W_yes (dj := 118) rfl rfl rfl hq94) (fun _ => y_ix1 Try.underlying43 Try.type3 rfl (ev_tv rfl rfl) (ev_tv rfl rfl) hi97 hi98) hS ?_
                          intro hS
                          refine D_pure (i := 6) (v := .slice x26 x26l x26c) rfl (by kernel_rfl) (W_yes (dj := 118) rfl rfl rfl hq94) (fun _ => y_move (ev_tv rfl ((hag82 11 rfl).trans ((hag67 11 rfl).trans ((hag61 11 rfl).trans ((hag49 11 rfl).trans rfl)))))) hS ?_
                          intro hS
                          refine D_pure (i := 7) (v := .int .i64 v34) rfl (by kernel_rfl) (W_yes (dj := 118) rfl rfl rfl hq94) (fun _ => y_move (ev_tv rfl ((hag82 15 rfl).trans hs71))) hS ?_
                          intro hS
                          obtain ⟨b45, o46, rfl, H⟩ := H
                          obtain ⟨hi99, hi100, H⟩ := H
                          refine D_pure (i := 8) (v := .pointer (some ⟨b45, o46 + (v34 : Int).toNat, none⟩)) rfl (by kernel_rfl) (W_yes (dj := 118) rfl rfl rfl hq94) (fun _ => y_ix1 Try.underlying43 Try.type3 rfl (ev_tv rfl rfl) (ev_tv rfl rfl) hi99 hi100) hS ?_
                          intro hS
                          obtain ⟨x47, hc101, H⟩ := H
                          refine D_read (i := 5) (v := .int .i64 x47) rfl (by kernel_rfl) (W_yes (dj := 118) rfl rfl rfl hq94) (fun wx => World.cell? wx ⟨b43, o44 + (v38 : Int).toNat, none⟩ = some (.int .i64 x47)) hc101 (fun _ hcx => y_load Try.underlying3 rfl (ev_tv rfl rfl) hcx) hS ?_
                          intro hS
                          obtain ⟨x48, hc102, H⟩ := H
                          refine D_read (i := 9) (v := .int .i64 x48) rfl (by kernel_rfl) (W_yes (dj := 118) rfl rfl rfl hq94) (fun wx => World.cell? wx ⟨b45, o46 + (v34 : Int).toNat, none⟩ = some (.int .i64 x48)) hc102 (fun _ hcx => y_load Try.underlying3 rfl (ev_tv rfl rfl) hcx) hS ?_
                          intro hS
                          refine D_pure (i := 10) (v := .bool (decide ((x47 : Int) = x48))) rfl (by kernel_rfl) (W_yes (dj := 118) rfl rfl rfl hq94) (fun _ => y_ieq (ev_tv rfl rfl) (ev_tv rfl rfl)) hS ?_
                          intro hS
                          refine D_pure (i := 11) (v := .bool (decide ((x47 : Int) = x48))) rfl (by kernel_rfl) (W_none rfl) (fun _ => y_pick_f (ev_tv rfl hq94) (ev_tv rfl rfl)) hS ?_
                          intro hS
                          refine D_pure (i := 12) (v := .bool (decide ((x47 : Int) = x48))) rfl (by kernel_rfl) (W_none rfl) (fun _ => y_assign (ev_tv rfl rfl)) hS ?_
                          intro hS
                          refine D_done (by kernel_rfl) ?_
                          refine block_norm ?_
                          refine then_norm ?_
                          refine hK92 _ _ ?_
                          clear hK92
                          refine c_region ?_
                          refine L_val (v := .int .i64 v38) (y_move (ev_tv rfl hs87)) ?_
                          obtain ⟨r49, hr103⟩ : ∃ r49 : Int, r49 = IntKind.wrap .i64 (v38 + 1) := ⟨_, rfl⟩
                          replace H := H r49 hr103
                          refine L_val (v := .int .i64 r49) (y_add (ev_tv rfl rfl) ev_c hr103) ?_
                          refine L_val (v := .int .i64 r49) (y_assign (ev_tv rfl rfl)) ?_
                          refine l_nil ?_
                          refine then_norm ?_
                          obtain ⟨m50, hm104, H⟩ := H
                          exact ⟨_, rfl, (by repeat (first | exact agree_refl | exact hag82 | exact hag67 | exact hag61 | exact hag49 | exact hag26 | refine agree_upd rfl ?_ | refine agree_via hag82 rfl ?_ | refine agree_via hag67 rfl ?_ | refine agree_via hag61 rfl ?_ | refine agree_via hag49 rfl ?_ | refine agree_via hag26 rfl ?_)), m50, hm104, _, _, rfl, rfl, H⟩
                      · replace H := H.2 hb90
                        have hq91 : Value.bool (decide ((v38 : Int) < ((x30l : Nat) : Int))) = Value.bool false := congrArg Value.bool (decide_eq_false hb90)
                        refine cond_f (ev_tv rfl hq91) ?_
                        refine c_exit ?_
                        refine then_exit ?_
                        refine then_exit ?_
                        refine block_hit ?_
                        refine then_norm ?_
                        refine hK78 _ _ ?_
                        clear hK78
                        refine c_seq ?_
                        intro K105 hK105
                        refine c_region ?_
                        refine L_val (v := .bool v37) (y_move (ev_tv rfl hs86)) ?_
                        rcases Bool.eq_false_or_eq_true v37 with hb106 | hb106
                        · replace H := H.1 hb106
                          have hq107 : Value.bool (v37) = Value.bool true := congrArg Value.bool hb106
                          refine L_val (v := .bool false) (y_not_t (ev_tv rfl hq107)) ?_
                          refine l_nil ?_
                          refine then_norm ?_
                          refine hK105 _ _ ?_
                          clear hK105
                          refine cond_f (ev_tv rfl rfl) ?_
                          refine c_skip ?_
                          refine block_norm ?_
                          refine then_norm ?_
                          refine hK76 _ _ ?_
                          clear hK76
                          refine c_region ?_
                          refine L_val (v := .int .i64 v34) (y_move (ev_tv rfl ((hag82 15 rfl).trans hs71))) ?_
                          obtain ⟨r51, hr108⟩ : ∃ r51 : Int, r51 = IntKind.wrap .i64 (v34 + 1) := ⟨_, rfl⟩
                          replace H := H r51 hr108
                          refine L_val (v := .int .i64 r51) (y_add (ev_tv rfl rfl) ev_c hr108) ?_
                          refine L_val (v := .int .i64 r51) (y_assign (ev_tv rfl rfl)) ?_
                          refine l_nil ?_
                          refine then_norm ?_
                          obtain ⟨m52, hm109, H⟩ := H
                          exact ⟨_, rfl, (by repeat (first | exact agree_refl | exact hag82 | exact hag67 | exact hag61 | exact hag49 | exact hag26 | refine agree_upd rfl ?_ | refine agree_via hag82 rfl ?_ | refine agree_via hag67 rfl ?_ | refine agree_via hag61 rfl ?_ | refine agree_via hag49 rfl ?_ | refine agree_via hag26 rfl ?_)), m52, hm109, _, rfl, H⟩
                        · replace H := H.2 hb106
                          have hq107 : Value.bool (v37) = Value.bool false := congrArg Value.bool hb106
                          refine L_val (v := .bool true) (y_not_f (ev_tv rfl hq107)) ?_
                          refine l_nil ?_
                          refine then_norm ?_
                          refine hK105 _ _ ?_
                          clear hK105
                          refine cond_t (ev_tv rfl rfl) ?_
                          refine c_seq ?_
                          intro K110 hK110
                          refine c_region ?_
                          refine L_val (v := .bool false) (y_assign ev_c) ?_
                          refine l_nil ?_
                          refine then_norm ?_
                          refine hK110 _ _ ?_
                          clear hK110
                          refine c_ret ?_
                          refine block_ret ?_
                          refine then_ret ?_
                          refine then_ret ?_
                          refine block_ret ?_
                          refine block_ret ?_
                          refine then_ret ?_
                          refine then_ret ?_
                          refine block_ret ?_
                          refine then_ret ?_
                          exact body_1 rfl (ev_tv rfl rfl) H
                    · replace H := H.2 hb74
                      have hq75 : Value.bool (decide ((v34 : Int) < ((x26l : Nat) : Int))) = Value.bool false := congrArg Value.bool (decide_eq_false hb74)
                      refine cond_f (ev_tv rfl hq75) ?_
                      refine c_exit ?_
                      refine then_exit ?_
                      refine then_exit ?_
                      refine block_hit ?_
                      refine block_norm ?_
                      refine then_norm ?_
                      refine hK35 _ _ ?_
                      clear hK35
                      refine c_region ?_
                      refine L_val (v := .int .i64 v14) (y_move (ev_tv rfl ((hag67 9 rfl).trans ((hag61 9 rfl).trans ((hag49 9 rfl).trans hs30))))) ?_
                      obtain ⟨r53, hr111⟩ : ∃ r53 : Int, r53 = IntKind.wrap .i64 (v14 + 1) := ⟨_, rfl⟩
                      replace H := H r53 hr111
                      refine L_val (v := .int .i64 r53) (y_add (ev_tv rfl rfl) ev_c hr111) ?_
                      refine L_val (v := .int .i64 r53) (y_assign (ev_tv rfl rfl)) ?_
                      refine l_nil ?_
                      refine then_norm ?_
                      obtain ⟨m54, hm112, H⟩ := H
                      exact ⟨_, rfl, (by repeat (first | exact agree_refl | exact hag67 | exact hag61 | exact hag49 | exact hag26 | refine agree_upd rfl ?_ | refine agree_via hag67 rfl ?_ | refine agree_via hag61 rfl ?_ | refine agree_via hag49 rfl ?_ | refine agree_via hag26 rfl ?_)), m54, hm112, _, rfl, H⟩
            · replace H := H.2 hb33
              have hq34 : Value.bool (decide ((v14 : Int) < ((a_l2l : Nat) : Int))) = Value.bool false := congrArg Value.bool (decide_eq_false hb33)
              refine cond_f (ev_tv rfl hq34) ?_
              refine c_exit ?_
              refine then_exit ?_
              refine then_exit ?_
              refine block_hit ?_
              refine then_norm ?_
              refine hK22 _ _ ?_
              clear hK22
              refine c_seq ?_
              intro K168 hK168
              refine c_region ?_
              refine L_val (v := .bool true) (y_assign ev_c) ?_
              refine l_nil ?_
              refine then_norm ?_
              refine hK168 _ _ ?_
              clear hK168
              refine c_ret ?_
              exact body_1 rfl (ev_tv rfl rfl) H
      · replace H := H.2 hb11
        have hq12 : Value.bool (x7) = Value.bool false := congrArg Value.bool hb11
        refine G_val (dj := 28) rfl rfl hq9 (v := .bool true) (y_not_f (ev_tv rfl hq12)) ?_
        refine L_val (v := .bool true) (y_pick_f (ev_tv rfl hq9) (ev_tv rfl rfl)) ?_
        refine l_nil ?_
        refine then_norm ?_
        refine hK4 _ _ ?_
        clear hK4
        refine cond_t (ev_tv rfl rfl) ?_
        refine c_seq ?_
        intro K169 hK169
        refine c_region ?_
        refine L_val (v := .bool false) (y_assign ev_c) ?_
        refine l_nil ?_
        refine then_norm ?_
        refine hK169 _ _ ?_
        clear hK169
        refine c_ret ?_
        refine then_ret ?_
        exact body_1 rfl (ev_tv rfl rfl) H

/-- parapet/parapetlaw15.BufBack -/
def Vc5 (a_room1 : Int) (a_l2 : Option Addr) (a_l2l : Nat) (a_l2c : Nat) (w : World) (R : Ending → World → Prop) : Prop :=
  (Calls Try.prog 6 #[.int .i64 12] w fun e w5 => ∃ x3 : Option Addr, ∃ x4 : Int, e = .returned (.tuple #[.pointer x3, .int .i64 x4]) ∧ (((¬ ((x4 : Int) = 0)) → R (.returned (.bool false)) w5) ∧ (((x4 : Int) = 0) → (((x3 = none) → R (.returned (.bool false)) w5) ∧ ((x3 ≠ none) → (Calls Try.prog 7 #[] w5 fun e w8 => ∃ x7 : Bool, e = .returned (.bool x7) ∧ (((x7 = true) → (Calls Try.prog 8 #[.pointer x3, .int .i64 a_room1] w8 fun e w12 => ∃ x10 : Option Addr, ∃ x11 : Int, e = .returned (.tuple #[.pointer x10, .int .i64 x11]) ∧ (∃ J15 : Bool → World → Prop, (∀ (v14 : Bool) (w15 : World), J15 v14 w15 → (((v14 = true) → (((x10 = none) → R (.returned (.bool (decide ((x11 : Int) = 1)))) w15) ∧ ((x10 ≠ none) → R (.returned (.bool false)) w15))) ∧ ((v14 = false) → (∀ (b16 : Nat) (w17 : World), b16 = World.heapSize w15 → w17 = World.alloc w15 (.cells #[.int .u8 0, .int .u8 0, .int .u8 0, .int .u8 0, .int .u8 0, .int .u8 0, .int .u8 0, .int .u8 0, .int .u8 0, .int .u8 0, .int .u8 0, .int .u8 0] 46) → (∃ J30 : World → Prop, (∀  (w18 : World), J30  w18 → (Calls Try.prog 15 #[.pointer x10] w18 fun e w20 => ∃ x19 : Option Addr, ∃ x19l : Nat, ∃ x19c : Nat, e = .returned (.slice x19 x19l x19c) ∧ (∃ J37 : World → Prop, (∀  (w22 : World), J37  w22 → (Calls Try.prog 17 #[.pointer x3] w22 fun e w24 => ∃ x23 : Int, e = .returned (.int .i64 x23) ∧ (Calls Try.prog 15 #[.pointer x10] w24 fun e w27 => ∃ x26 : Option Addr, ∃ x26l : Nat, ∃ x26c : Nat, e = .returned (.slice x26 x26l x26c) ∧ (((¬ ((((x26l : Nat) : Int) : Int) = 0)) → R (.returned (.bool false)) w27) ∧ (((((x26l : Nat) : Int) : Int) = 0) → (Calls Try.prog 18 #[.pointer x3, .slice none 0 0] w27 fun e w30 => ∃ x29 : Int, e = .returned (.int .i64 x29) ∧ (((¬ ((x29 : Int) = 0)) → R (.returned (.bool false)) w30) ∧ (((x29 : Int) = 0) → (∃ I54 : Nat → Int → World → Prop, (∃ m, I54 m 0 w30) ∧ ∀ (m33 : Nat) (v32 : Int) (w34 : World), I54 m33 v32 w34 → ((((v32 : Int) < 12) → (Calls Try.prog 19 #[.pointer x3, .int .i64 v32] w34 fun e w37 => ∃ x35 : Option Addr, ∃ x35l : Nat, ∃ x35c : Nat, ∃ x36 : Int, e = .returned (.tuple #[.slice x35 x35l x35c, .int .i64 x36]) ∧ (((¬ ((x36 : Int) = 0)) → R (.returned (.bool false)) w37) ∧ (((x36 : Int) = 0) → ((0 : Int) ≤ v32 ∧ v32 < ((12 : Nat) : Int) ∧ (∃ x39 : Int, World.cell? w37 ⟨b16, 0 + (v32 : Int).toNat * 1, none⟩ = some (.int .u8 x39) ∧ (Calls Try.prog 12 #[.int .u8 x39, .int .i64 0] w37 fun e w41 => ∃ x40 : Option Addr, ∃ x40l : Nat, ∃ x40c : Nat, e = .returned (.slice x40 x40l x40c) ∧ (Calls Try.prog 10 #[.slice x35 x35l x35c, .slice x40 x40l x40c] w41 fun e w44 => ∃ x43 : Bool, e = .returned (.bool x43) ∧ (((x43 = true) → (∀ r46 : Int, r46 = IntKind.wrap .i64 (v32 + 1) → (∃ m47, m47 < m33 ∧ I54 m47 r46 w44))) ∧ ((x43 = false) → R (.returned (.bool false)) w44)))))))))) ∧ ((¬ ((v32 : Int) < 12)) → R (.returned (.bool true)) w34))))))))))) ∧ (∃ I81 : Nat → Int → World → Prop, (∃ m, I81 m 0 w20) ∧ ∀ (m49 : Nat) (v48 : Int) (w50 : World), I81 m49 v48 w50 → ((((v48 : Int) < ((x19l : Nat) : Int)) → (∃ (b51 o52 : Nat), x19 = some ⟨b51, o52, none⟩ ∧ ((0 : Int) ≤ v48 ∧ v48 < ((x19l : Nat) : Int) ∧ (∃ x53 : Int, World.cell? w50 ⟨b51, o52 + (v48 : Int).toNat, none⟩ = some (.int .i64 x53) ∧ (Calls Try.prog 13 #[.pointer x10, .int .i64 x53] w50 fun e w56 => ∃ x54 : Bool, ∃ x55 : Int, e = .returned (.tuple #[.bool x54, .int .i64 x55]) ∧ (((x54 = true) → (((¬ ((x55 : Int) = 0)) → R (.returned (.bool false)) w56) ∧ (((x55 : Int) = 0) → (∀ r58 : Int, r58 = IntKind.wrap .i64 (v48 + 1) → (∃ m59, m59 < m49 ∧ I81 m59 r58 w56))))) ∧ ((x54 = false) → R (.returned (.bool false)) w56))))))) ∧ ((¬ ((v48 : Int) < ((x19l : Nat) : Int))) → J37  w50)))))) ∧ (∃ I107 : Nat → Int → World → Prop, (∃ m, I107 m 0 w17) ∧ ∀ (m61 : Nat) (v60 : Int) (w62 : World), I107 m61 v60 w62 → ((((v60 : Int) < ((a_l2l : Nat) : Int)) → (∃ (b63 o64 : Nat), a_l2 = some ⟨b63, o64, none⟩ ∧ ((0 : Int) ≤ v60 ∧ v60 < ((a_l2l : Nat) : Int) ∧ (∃ x65 : Int, ∃ x66 : Int, ∃ x67 : Int, ∃ x68 : Int, CellsAt w62 ⟨b63, o64 + (v60 : Int).toNat * 4, none⟩ [.int .i64 x65, .int .i64 x66, .int .u8 x67, .int .i64 x68] ∧ (∀ (b69 : Nat) (w70 : World), b69 = World.heapSize w62 → w70 = World.alloc w62 (.cells #[.int .i64 0, .int .i64 0, .int .u8 0, .int .i64 0] 32) → ((∀ j, j < 4 → (World.cell? w70 (Addr.add ⟨b69, 0, none⟩ j)).isSome = true ∧ World.frozen? w70 (Addr.add ⟨b69, 0, none⟩ j) = false) ∧ ∀ w71 : World, w71 = putCells w70 ⟨b69, 0, none⟩ [.int .i64 x65, .int .i64 x66, .int .u8 x67, .int .i64 x68] 0 → (∃ x72 : Int, World.cell? w71 ⟨b69, 0, none⟩ = some (.int .i64 x72) ∧ ((((x72 : Int) = 1) → (∃ x73 : Int, World.cell? w71 ⟨b69, 0 + 1, none⟩ = some (.int .i64 x73) ∧ (Calls Try.prog 9 #[.pointer x10, .int .i64 x73] w71 fun e w76 => ∃ x74 : Option Addr, ∃ x74l : Nat, ∃ x74c : Nat, ∃ x75 : Int, e = .returned (.tuple #[.slice x74 x74l x74c, .int .i64 x75]) ∧ ((((x75 : Int) = 0) → (∃ x78 : Int, World.cell? w76 ⟨b69, 0 + 1, none⟩ = some (.int .i64 x78) ∧ ((((x78 : Int) < 0) → R (.returned (.bool false)) w76) ∧ ((¬ ((x78 : Int) < 0)) → (∃ x79 : Int, World.cell? w76 ⟨b69, 0 + 1, none⟩ = some (.int .i64 x79) ∧ ((((11 : Int) < x79) → R (.returned (.bool false)) w76) ∧ ((¬ ((11 : Int) < x79)) → (∃ x80 : Int, World.cell? w76 ⟨b69, 0 + 1, none⟩ = some (.int .i64 x80) ∧ ((0 : Int) ≤ x80 ∧ x80 < ((12 : Nat) : Int) ∧ (∃ x81 : Int, World.cell? w76 ⟨b16, 0 + (x80 : Int).toNat * 1, none⟩ = some (.int .u8 x81) ∧ (Calls Try.prog 12 #[.int .u8 x81, .int .i64 0] w76 fun e w83 => ∃ x82 : Option Addr, ∃ x82l : Nat, ∃ x82c : Nat, e = .returned (.slice x82 x82l x82c) ∧ (Calls Try.prog 10 #[.slice x74 x74l x74c, .slice x82 x82l x82c] w83 fun e w86 => ∃ x85 : Bool, e = .returned (.bool x85) ∧ (((x85 = true) → (∀ r88 : Int, r88 = IntKind.wrap .i64 (v60 + 1) → (∃ m89, m89 < m61 ∧ I107 m89 r88 w86))) ∧ ((x85 = false) → R (.returned (.bool false)) w86)))))))))))))) ∧ ((¬ ((x75 : Int) = 0)) → (∀ r90 : Int, r90 = IntKind.wrap .i64 (v60 + 1) → (∃ m91, m91 < m61 ∧ I107 m91 r90 w76))))))) ∧ ((¬ ((x72 : Int) = 1)) → ((((x72 : Int) = 2) → (∃ x92 : Int, World.cell? (w71.drew) ⟨b69, 0 + 1, none⟩ = some (.int .i64 x92) ∧ (∃ x93 : Int, World.cell? (w71.drew) ⟨b69, 0 + 2, none⟩ = some (.int .u8 x93) ∧ (Calls Try.prog 12 #[.int .u8 x93, .int .i64 0] (w71.drew) fun e w95 => ∃ x94 : Option Addr, ∃ x94l : Nat, ∃ x94c : Nat, e = .returned (.slice x94 x94l x94c) ∧ (World.cell? w95 ⟨b69, 0 + 1, none⟩ = some (.int .i64 x92) ∧ (Calls Try.prog 11 #[.pointer x10, .int .i64 x92, .slice x94 x94l x94c] w95 fun e w97 => ∃ x96 : Int, e = .returned (.int .i64 x96) ∧ ((((x96 : Int) = 0) → (∃ x98 : Int, World.cell? w97 ⟨b69, 0 + 1, none⟩ = some (.int .i64 x98) ∧ ((((x98 : Int) < 0) → R (.returned (.bool false)) w97) ∧ ((¬ ((x98 : Int) < 0)) → (∃ x99 : Int, World.cell? w97 ⟨b69, 0 + 1, none⟩ = some (.int .i64 x99) ∧ ((((11 : Int) < x99) → R (.returned (.bool false)) w97) ∧ ((¬ ((11 : Int) < x99)) → (∃ x100 : Int, World.cell? w97 ⟨b69, 0 + 1, none⟩ = some (.int .i64 x100) ∧ (∃ x101 : Int, World.cell? w97 ⟨b69, 0 + 2, none⟩ = some (.int .u8 x101) ∧ ((0 : Int) ≤ x100 ∧ x100 < ((12 : Nat) : Int) ∧ ((World.cell? w97 ⟨b16, 0 + (x100 : Int).toNat * 1, none⟩).isSome = true ∧ World.frozen? w97 ⟨b16, 0 + (x100 : Int).toNat * 1, none⟩ = false ∧ ∀ w102 : World, w102 = World.setCell w97 ⟨b16, 0 + (x100 : Int).toNat * 1, none⟩ (.int .u8 x101) → (∀ r103 : Int, r103 = IntKind.wrap .i64 (v60 + 1) → (∃ m104, m104 < m61 ∧ I107 m104 r103 w102))))))))))))) ∧ ((¬ ((x96 : Int) = 0)) → (∀ r105 : Int, r105 = IntKind.wrap .i64 (v60 + 1) → (∃ m106, m106 < m61 ∧ I107 m106 r105 w97)))))))))) ∧ ((¬ ((x72 : Int) = 2)) → ((((x72 : Int) = 3) → (∃ x107 : Int, World.cell? w71 ⟨b69, 0 + 1, none⟩ = some (.int .i64 x107) ∧ (Calls Try.prog 13 #[.pointer x10, .int .i64 x107] w71 fun e w110 => ∃ x108 : Bool, ∃ x109 : Int, e = .returned (.tuple #[.bool x108, .int .i64 x109]) ∧ (∀ r112 : Int, r112 = IntKind.wrap .i64 (v60 + 1) → (∃ m113, m113 < m61 ∧ I107 m113 r112 w110))))) ∧ ((¬ ((x72 : Int) = 3)) → ((((x72 : Int) = 4) → (Calls Try.prog 14 #[.pointer x10] w71 fun e w115 => ∃ x114 : Int, e = .returned (.int .i64 x114) ∧ (∀ r117 : Int, r117 = IntKind.wrap .i64 (v60 + 1) → (∃ m118, m118 < m61 ∧ I107 m118 r117 w115)))) ∧ ((¬ ((x72 : Int) = 4)) → (∀ r119 : Int, r119 = IntKind.wrap .i64 (v60 + 1) → (∃ m120, m120 < m61 ∧ I107 m120 r119 w71))))))))))))))))) ∧ ((¬ ((v60 : Int) < ((a_l2l : Nat) : Int))) → J30  w62)))))))) ∧ (((¬ ((x11 : Int) = 0)) → J15 true w12) ∧ (((x11 : Int) = 0) → J15 (x10.isNone) w12))))) ∧ ((x7 = false) → R (.returned (.bool false)) w8))))))))

theorem vc5 {a_room1 : Int} {a_l2 : Option Addr} {a_l2l : Nat} {a_l2c : Nat} {w : World} {R : Ending → World → Prop} (H : Vc5 a_room1 a_l2 a_l2l a_l2c w R) : Calls Try.prog 5 #[.int .i64 a_room1, .slice a_l2 a_l2l a_l2c] w R := by
  unfold Vc5 at H
  refine calls_start [.int .i64 a_room1, .slice a_l2 a_l2l a_l2c] Try.func5 rfl Try.ntmps5 rfl ?_
  refine c_seq ?_
  intro K1 hK1
  refine c_region ?_
  refine L_val (v := .bool false) (y_assign ev_c) ?_
  refine l_nil ?_
  refine then_norm ?_
  refine hK1 _ _ ?_
  clear hK1
  refine c_seq ?_
  intro K2 hK2
  refine c_region ?_
  refine L_call (y_call Try.call6 (map_ev1 ev_c) ev_f) (Calls.mono H ?_)
  clear H
  rintro _ w5 ⟨x3, x4, rfl, H⟩
  refine ⟨_, rfl, ?_⟩
  refine L_val (v := .tuple #[.pointer x3, .int .i64 x4]) (y_move (ev_tv rfl rfl)) ?_
  refine L_val (v := .pointer x3) (y_extract (ev_tv rfl rfl) rfl) ?_
  refine L_val (v := .int .i64 x4) (y_extract (ev_tv rfl rfl) rfl) ?_
  refine L_val (v := .pointer x3) (y_assign (ev_tv rfl rfl)) ?_
  refine L_val (v := .int .i64 x4) (y_assign (ev_tv rfl rfl)) ?_
  refine l_nil ?_
  refine then_norm ?_
  refine hK2 _ _ ?_
  clear hK2
  refine c_seq ?_
  intro K3 hK3
  refine c_seq ?_
  intro K4 hK4
  refine c_region ?_
  refine L_val (v := .int .i64 x4) (y_move (ev_tv rfl rfl)) ?_
  refine L_val (v := .bool (!decide ((x4 : Int) = 0))) (y_ine (ev_tv rfl rfl) ev_c) ?_
  refine L_val (v := .bool (!decide ((x4 : Int) = 0))) (y_move (ev_tv rfl rfl)) ?_
  rcases (Decidable.em ((x4 : Int) = 0)).symm with hb5 | hb5
  · replace H := H.1 hb5
    have hq6 : Value.bool (!decide ((x4 : Int) = 0)) = Value.bool true := congrArg Value.bool (ndec_t hb5)
    refine G_not (b' := true) (dj := 28) rfl rfl hq6 rfl ?_
    refine G_not (b' := true) (dj := 28) rfl rfl hq6 rfl ?_
    refine L_val (v := .bool true) (y_pick_t (ev_tv rfl hq6) ev_c) ?_
    refine L_val (v := .bool true) (y_move (ev_tv rfl rfl)) ?_
    refine G_not (b' := true) (dj := 32) rfl rfl rfl rfl ?_
    refine G_not (b' := true) (dj := 32) rfl rfl rfl rfl ?_
    refine L_val (v := .bool true) (y_pick_t (ev_tv rfl rfl) ev_c) ?_
    refine l_nil ?_
    refine then_norm ?_
    refine hK4 _ _ ?_
    clear hK4
    refine cond_t (ev_tv rfl rfl) ?_
    refine c_seq ?_
    intro K7 hK7
    refine c_region ?_
    refine L_val (v := .bool false) (y_assign ev_c) ?_
    refine l_nil ?_
    refine then_norm ?_
    refine hK7 _ _ ?_
    clear hK7
    refine c_ret ?_
    refine then_ret ?_
    exact body_1 rfl (ev_tv rfl rfl) H
  · replace H := H.2 hb5
    have hq6 : Value.bool (!decide ((x4 : Int) = 0)) = Value.bool false := congrArg Value.bool (ndec_f hb5)
    refine G_val (dj := 28) rfl rfl hq6 (v := .pointer x3) (y_move (ev_tv rfl rfl)) ?_
    refine G_val (dj := 28) rfl rfl hq6 (v := .bool (x3.isNone)) (y_peq Try.underlying23 (ev_tv rfl rfl) ev_c) ?_
    refine L_val (v := .bool (x3.isNone)) (y_pick_f (ev_tv rfl hq6) (ev_tv rfl rfl)) ?_
    refine L_val (v := .bool (x3.isNone)) (y_move (ev_tv rfl rfl)) ?_
    rcases (Classical.em (x3 = none)) with hb8 | hb8
    · replace H := H.1 hb8
      have hq9 : Value.bool (x3.isNone) = Value.bool true := congrArg Value.bool (isn_t hb8)
      refine G_not (b' := true) (dj := 32) rfl rfl hq9 rfl ?_
      refine G_not (b' := true) (dj := 32) rfl rfl hq9 rfl ?_
      refine L_val (v := .bool true) (y_pick_t (ev_tv rfl hq9) ev_c) ?_
      refine l_nil ?_
      refine then_norm ?_
      refine hK4 _ _ ?_
      clear hK4
      refine cond_t (ev_tv rfl rfl) ?_
      refine c_seq ?_
      intro K10 hK10
      refine c_region ?_
      refine L_val (v := .bool false) (y_assign ev_c) ?_
      refine l_nil ?_
      refine then_norm ?_
      refine hK10 _ _ ?_
      clear hK10
      refine c_ret ?_
      refine then_ret ?_
      exact body_1 rfl (ev_tv rfl rfl) H
    · replace H := H.2 hb8
      have hq9 : Value.bool (x3.isNone) = Value.bool false := congrArg Value.bool (isn_f hb8)
      refine G_call (dj := 32) rfl rfl hq9 (y_call Try.call7 map_ev0 ev_f) (Calls.mono H ?_)
      clear H
      rintro _ w8 ⟨x7, rfl, H⟩
      refine ⟨_, rfl, ?_⟩
      rcases Bool.eq_false_or_eq_true x7 with hb11 | hb11
      · replace H := H.1 hb11
        have hq12 : Value.bool (x7) = Value.bool true := congrArg Value.bool hb11
        refine G_val (dj := 32) rfl rfl hq9 (v := .bool false) (y_not_t (ev_tv rfl hq12)) ?_
        refine L_val (v := .bool false) (y_pick_f (ev_tv rfl hq9) (ev_tv rfl rfl)) ?_
        refine l_nil ?_
        refine then_norm ?_
        refine hK4 _ _ ?_
        clear hK4
        refine cond_f (ev_tv rfl rfl) ?_
        refine c_skip ?_
        refine then_norm ?_
        refine hK3 _ _ ?_
        clear hK3
        refine c_seq ?_
        intro K13 hK13
        refine c_region ?_
        refine L_val (v := .pointer x3) (y_move (ev_tv rfl rfl)) ?_
        refine L_val (v := .int .i64 a_room1) (y_move (ev_tv rfl rfl)) ?_
        refine L_call (y_call Try.call8 (map_ev2 (ev_tv rfl rfl) (ev_tv rfl rfl)) ev_f) (Calls.mono H ?_)
        clear H
        rintro _ w12 ⟨x10, x11, rfl, H⟩
        refine ⟨_, rfl, ?_⟩
        refine L_val (v := .tuple #[.pointer x10, .int .i64 x11]) (y_move (ev_tv rfl rfl)) ?_
        refine L_val (v := .pointer x10) (y_extract (ev_tv rfl rfl) rfl) ?_
        refine L_val (v := .int .i64 x11) (y_extract (ev_tv rfl rfl) rfl) ?_
        refine L_val (v := .pointer x10) (y_assign (ev_tv rfl rfl)) ?_
        refine L_val (v := .int .i64 x11) (y_assign (ev_tv rfl rfl)) ?_
        refine l_nil ?_
        refine then_norm ?_
        refine hK13 _ _ ?_
        clear hK13
        refine c_seq ?_
        intro K14 hK14
        obtain ⟨J15, hJ16, H⟩ := H
        refine c_seqJ [(42, 47)] (fun ff ww => ∃ (v14 : Bool), ff 47 = (.bool v14 : Value) ∧ J15 v14 ww) ?_ ?_
        · clear hJ16
          intro K20 hK20
          refine c_region ?_
          refine L_val (v := .int .i64 x11) (y_move (ev_tv rfl rfl)) ?_
          refine L_val (v := .bool (!decide ((x11 : Int) = 0))) (y_ine (ev_tv rfl rfl) ev_c) ?_
          refine L_val (v := .bool (!decide ((x11 : Int) = 0))) (y_move (ev_tv rfl rfl)) ?_
          rcases (Decidable.em ((x11 : Int) = 0)).symm with hb201 | hb201
          · replace H := H.1 hb201
            have hq202 : Value.bool (!decide ((x11 : Int) = 0)) = Value.bool true := congrArg Value.bool (ndec_t hb201)
            refine G_not (b' := true) (dj := 44) rfl rfl hq202 rfl ?_
            refine G_not (b' := true) (dj := 44) rfl rfl hq202 rfl ?_
            refine L_val (v := .bool true) (y_pick_t (ev_tv rfl hq202) ev_c) ?_
            refine l_nil ?_
            refine then_norm ?_
            exact hK20 _ _ (by repeat (first | exact agree_refl | refine agree_upd rfl ?_)) ⟨_, rfl, H⟩
          · replace H := H.2 hb201
            have hq202 : Value.bool (!decide ((x11 : Int) = 0)) = Value.bool false := congrArg Value.bool (ndec_f hb201)
            refine G_val (dj := 44) rfl rfl hq202 (v := .pointer x10) (y_move (ev_tv rfl rfl)) ?_
            refine G_val (dj := 44) rfl rfl hq202 (v := .bool (x10.isNone)) (y_peq Try.underlying28 (ev_tv rfl rfl) ev_c) ?_
            refine L_val (v := .bool (x10.isNone)) (y_pick_f (ev_tv rfl hq202) (ev_tv rfl rfl)) ?_
            refine l_nil ?_
            refine then_norm ?_
            exact hK20 _ _ (by repeat (first | exact agree_refl | refine agree_upd rfl ?_)) ⟨_, rfl, H⟩
        · clear H
          rintro f17 w15 hag18 ⟨v14, hs21, HJ19⟩
          have H := hJ16 v14 w15 HJ19
          clear hJ16
          rcases Bool.eq_false_or_eq_true v14 with hb22 | hb22
          · replace H := H.1 hb22
            have hq23 : Value.bool (v14) = Value.bool true := congrArg Value.bool hb22
            refine cond_t (ev_tv rfl (hs21.trans hq23)) ?_
            refine c_seq ?_
            intro K24 hK24
            refine c_region ?_
            refine L_val (v := .pointer x10) (y_move (ev_tv rfl ((hag18 7 rfl).trans rfl))) ?_
            refine L_val (v := .bool (x10.isNone)) (y_peq Try.underlying28 (ev_tv rfl rfl) ev_c) ?_
            refine L_val (v := .bool (x10.isNone)) (y_move (ev_tv rfl rfl)) ?_
            rcases (Classical.em (x10 = none)) with hb25 | hb25
            · replace H := H.1 hb25
              have hq26 : Value.bool (x10.isNone) = Value.bool true := congrArg Value.bool (isn_t hb25)
              refine G_val (dj := 50) rfl rfl hq26 (v := .int .i64 x11) (y_move (ev_tv rfl ((hag18 8 rfl).trans rfl))) ?_
              refine G_val (dj := 50) rfl rfl hq26 (v := .bool (decide ((x11 : Int) = 1))) (y_ieq (ev_tv rfl rfl) ev_c) ?_
              refine L_val (v := .bool (decide ((x11 : Int) = 1))) (y_pick_t (ev_tv rfl hq26) (ev_tv rfl rfl)) ?_
              refine L_val (v := .bool (decide ((x11 : Int) = 1))) (y_assign (ev_tv rfl rfl)) ?_
              refine l_nil ?_
              refine then_norm ?_
              refine hK24 _ _ ?_
              clear hK24
              refine c_ret ?_
              refine then_ret ?_
              exact body_1 rfl (ev_tv rfl rfl) H
            · replace H := H.2 hb25
              have hq26 : Value.bool (x10.isNone) = Value.bool false := congrArg Value.bool (isn_f hb25)
              refine G_not (b' := false) (dj := 50) rfl rfl hq26 rfl ?_
              refine G_not (b' := false) (dj := 50) rfl rfl hq26 rfl ?_
              refine L_val (v := .bool false) (y_pick_f (ev_tv rfl hq26) ev_c) ?_
              refine L_val (v := .bool false) (y_assign (ev_tv rfl rfl)) ?_
              refine l_nil ?_
              refine then_norm ?_
              refine hK24 _ _ ?_
              clear hK24
              refine c_ret ?_
              refine then_ret ?_
              exact body_1 rfl (ev_tv rfl rfl) H
          · replace H := H.2 hb22
            have hq23 : Value.bool (v14) = Value.bool false := congrArg Value.bool hb22
            refine cond_f (ev_tv rfl (hs21.trans hq23)) ?_
            refine c_skip ?_
            refine then_norm ?_
            refine hK14 _ _ ?_
            clear hK14
            refine c_seq ?_
            intro K27 hK27
            refine c_region ?_
            obtain ⟨b16, hb28⟩ : ∃ b16 : Nat, b16 = World.heapSize w15 := ⟨_, rfl⟩
            obtain ⟨w17, hw29⟩ : ∃ w17 : World, w17 = World.alloc w15 (.cells #[.int .u8 0, .int .u8 0, .int .u8 0, .int .u8 0, .int .u8 0, .int .u8 0, .int .u8 0, .int .u8 0, .int .u8 0, .int .u8 0, .int .u8 0, .int .u8 0] 46) := ⟨_, rfl⟩
            replace H := H b16 w17 hb28 hw29
            refine L_val (v := .pointer (some ⟨b16, 0, none⟩)) (y_alloc Try.type46 rfl rfl hb28 hw29) ?_
            refine l_nil ?_
            refine then_norm ?_
            refine hK27 _ _ ?_
            clear hK27
            obtain ⟨J30, hJ31, H⟩ := H
            refine c_seqJ [(4, 4), (10, 14), (54, 130)] (fun ff ww => J30  ww) ?_ ?_
            · clear hJ31
              intro K35 hK35
              refine c_seq ?_
              intro K106 hK106
              refine c_region ?_
              refine L_val (v := .int .i64 0) (y_assign ev_c) ?_
              refine l_nil ?_
              refine then_norm ?_
              refine hK106 _ _ ?_
              clear hK106
              refine c_block ?_
              obtain ⟨I107, ⟨m111, HI112⟩, H⟩ := H
              refine loop_fr ([(4, 4), (10, 14), (54, 130)]) (fun m ff ww => ∃ (v60 : Int), ff 10 = (.int .i64 v60 : Value) ∧ I107 m v60 ww) m111 ⟨0, rfl, HI112⟩ ?_
              rintro m61 f108 w62 hag109 ⟨v60, hs113, HI110⟩
              replace H := H m61 v60 w62 HI110
              refine c_seq ?_
              intro K114 hK114
              refine c_seq ?_
              intro K115 hK115
              refine c_region ?_
              refine L_val (v := .int .i64 v60) (y_move (ev_tv rfl hs113)) ?_
              refine L_val (v := .slice a_l2 a_l2l a_l2c) (y_move (ev_tv rfl ((hag109 1 rfl).trans ((hag18 1 rfl).trans rfl)))) ?_
              refine L_val (v := .int .i64 ((a_l2l : Nat) : Int)) (y_len Try.underlying22 rfl (map_ev1 (ev_tv rfl rfl))) ?_
              refine L_val (v := .bool (decide ((v60 : Int) < ((a_l2l : Nat) : Int)))) (y_lss (ev_tv rfl rfl) (ev_tv rfl rfl)) ?_
              refine l_nil ?_
              refine then_norm ?_
              refine hK115 _ _ ?_
              clear hK115
              rcases (Decidable.em ((v60 : Int) < ((a_l2l : Nat) : Int))) with hb116 | hb116
              · replace H := H.1 hb116
                have hq117 : Value.bool (decide ((v60 : Int) < ((a_l2l : Nat) : Int))) = Value.bool true := congrArg Value.bool (decide_eq_true hb116)
                refine cond_t (ev_tv rfl hq117) ?_
                refine c_skip ?_
                refine then_norm ?_
                refine hK114 _ _ ?_
                clear hK114
                refine c_seq ?_
                intro K118 hK118
                refine c_block ?_
                refine c_seq ?_
                intro K119 hK119
                refine c_region ?_
                refine L_val (v := .slice a_l2 a_l2l a_l2c) (y_move (ev_tv rfl ((hag109 1 rfl).trans ((hag18 1 rfl).trans rfl)))) ?_
                refine L_val (v := .int .i64 v60) (y_move (ev_tv rfl hs113)) ?_
                obtain ⟨b63, o64, rfl, H⟩ := H
                obtain ⟨hi120, hi121, H⟩ := H
                refine L_val (v := .pointer (some ⟨b63, o64 + (v60 : Int).toNat * 4, none⟩)) (y_ix Try.underlying22 Try.type32 rfl (ev_tv rfl rfl) (ev_tv rfl rfl) hi120 hi121) ?_
                obtain ⟨x65, x66, x67, x68, hc122, H⟩ := H
                refine L_val (v := .agg #[.int .i64 x65, .int .i64 x66, .int .u8 x67, .int .i64 x68]) (y_loadAgg Try.underlying32 rfl Try.type32 rfl (ev_tv rfl rfl) hc122) ?_
                obtain ⟨b69, hb123⟩ : ∃ b69 : Nat, b69 = World.heapSize w62 := ⟨_, rfl⟩
                obtain ⟨w70, hw124⟩ : ∃ w70 : World, w70 = World.alloc w62 (.cells #[.int .i64 0, .int .i64 0, .int .u8 0, .int .i64 0] 32) := ⟨_, rfl⟩
                replace H := H b69 w70 hb123 hw124
                refine L_val (v := .pointer (some ⟨b69, 0, none⟩)) (y_alloc Try.type32 rfl rfl hb123 hw124) ?_
                obtain ⟨hc125, H⟩ := H
                obtain ⟨w71, hw127⟩ : ∃ w71 : World, w71 = putCells w70 ⟨b69, 0, none⟩ [.int .i64 x65, .int .i64 x66, .int .u8 x67, .int .i64 x68] 0 := ⟨_, rfl⟩
                replace H := H w71 hw127
                refine L_skip (y_storeAgg Try.type32 rfl (by intro v hv; simp only [List.mem_cons, List.not_mem_nil, or_false] at hv; rcases hv with rfl | rfl | rfl | rfl <;> rfl) (ev_tv rfl rfl) (ev_tv rfl rfl) hc125 hw127) ?_
                refine l_nil ?_
                refine then_norm ?_
                refine hK119 _ _ ?_
                clear hK119
                refine c_seq ?_
                intro K128 hK128
                refine c_region ?_
                refine L_val (v := .pointer (some ⟨b69, 0, none⟩)) (Try.fa32_0 (ev_tv rfl rfl)) ?_
                obtain ⟨x72, hc129, H⟩ := H
                refine L_val (v := .int .i64 x72) (y_load Try.underlying3 rfl (ev_tv rfl rfl) hc129) ?_
                refine l_nil ?_
                refine then_norm ?_
                refine hK128 _ _ ?_
                clear hK128
                refine c_block ?_
                refine c_seq ?_
                intro K130 hK130
                refine c_region ?_
                refine L_val (v := .bool (decide ((x72 : Int) = 1))) (y_ieq (ev_tv rfl rfl) ev_c) ?_
                refine L_val (v := .bool (decide ((x72 : Int) = 1))) (y_assign (ev_tv rfl rfl)) ?_
                refine l_nil ?_
                refine then_norm ?_
                refine hK130 _ _ ?_
                clear hK130
                rcases (Decidable.em ((x72 : Int) = 1)) with hb131 | hb131
                · replace H := H.1 hb131
                  have hq132 : Value.bool (decide ((x72 : Int) = 1)) = Value.bool true := congrArg Value.bool (decide_eq_true hb131)
                  refine cond_t (ev_tv rfl hq132) ?_
                  refine c_seq ?_
                  intro K133 hK133
                  refine c_region ?_
                  refine L_val (v := .pointer x10) (y_move (ev_tv rfl ((hag109 7 rfl).trans ((hag18 7 rfl).trans rfl)))) ?_
                  refine L_val (v := .pointer (some ⟨b69, 0 + 1, none⟩)) (Try.fa32_1 (ev_tv rfl rfl)) ?_
                  obtain ⟨x73, hc134, H⟩ := H
                  refine L_val (v := .int .i64 x73) (y_load Try.underlying3 rfl (ev_tv rfl rfl) hc134) ?_
                  refine L_call (y_call Try.call9 (map_ev2 (ev_tv rfl rfl) (ev_tv rfl rfl)) ev_f) (Calls.mono H ?_)
                  clear H
                  rintro _ w76 ⟨x74, x74l, x74c, x75, rfl, H⟩
                  refine ⟨_, rfl, ?_⟩
                  refine L_val (v := .tuple #[.slice x74 x74l x74c, .int .i64 x75]) (y_move (ev_tv rfl rfl)) ?_
                  refine L_val (v := .slice x74 x74l x74c) (y_extract (ev_tv rfl rfl) rfl) ?_
                  refine L_val (v := .int .i64 x75) (y_extract (ev_tv rfl rfl) rfl) ?_
                  refine L_val (v := .slice x74 x74l x74c) (y_assign (ev_tv rfl rfl)) ?_
                  refine L_val (v := .int .i64 x75) (y_assign (ev_tv rfl rfl)) ?_
                  refine l_nil ?_
                  refine then_norm ?_
                  refine hK133 _ _ ?_
                  clear hK133
                  refine c_seq ?_
                  intro K135 hK135
                  refine c_region ?_
                  refine L_val (v := .int .i64 x75) (y_move (ev_tv rfl rfl)) ?_
                  refine L_val (v := .bool (decide ((x75 : Int) = 0))) (y_ieq (ev_tv rfl rfl) ev_c) ?_
                  refine L_val (v := .bool (decide ((x75 : Int) = 0))) (y_move (ev_tv rfl rfl)) ?_
                  rcases (Decidable.em ((x75 : Int) = 0)) with hb136 | hb136
                  · replace H := H.1 hb136
                    have hq137 : Value.bool (decide ((x75 : Int) = 0)) = Value.bool true := congrArg Value.bool (decide_eq_true hb136)
                    refine G_val (dj := 77) rfl rfl hq137 (v := .pointer (some ⟨b69, 0 + 1, none⟩)) (Try.fa32_1 (ev_tv rfl rfl)) ?_
                    obtain ⟨x78, hc138, H⟩ := H
                    refine G_val (dj := 77) rfl rfl hq137 (v := .int .i64 x78) (y_load Try.underlying3 rfl (ev_tv rfl rfl) hc138) ?_
                    refine G_val (dj := 77) rfl rfl hq137 (v := .bool (decide ((x78 : Int) < 0))) (y_lss (ev_tv rfl rfl) ev_c) ?_
                    refine G_val (dj := 77) rfl rfl hq137 (v := .bool (decide ((x78 : Int) < 0))) (y_move (ev_tv rfl rfl)) ?_
                    rcases (Decidable.em ((x78 : Int) < 0)) with hb139 | hb139
                    · replace H := H.1 hb139
                      have hq140 : Value.bool (decide ((x78 : Int) < 0)) = Value.bool true := congrArg Value.bool (decide_eq_true hb139)
                      refine G_not (b' := true) (dj := 81) rfl rfl hq140 rfl ?_
                      refine G_not (b' := true) (dj := 81) rfl rfl hq140 rfl ?_
                      refine G_not (b' := true) (dj := 81) rfl rfl hq140 rfl ?_
                      refine G_val (dj := 77) rfl rfl hq137 (v := .bool true) (y_pick_t (ev_tv rfl hq140) ev_c) ?_
                      refine G_val (dj := 77) rfl rfl hq137 (v := .bool true) (y_move (ev_tv rfl rfl)) ?_
                      refine G_not (b' := true) (dj := 86) rfl rfl rfl rfl ?_
                      refine G_not (b' := true) (dj := 86) rfl rfl rfl rfl ?_
                      refine G_not (b' := true) (dj := 86) rfl rfl rfl rfl ?_
                      refine G_not (b' := true) (dj := 86) rfl rfl rfl rfl ?_
                      refine G_not (b' := true) (dj := 86) rfl rfl rfl rfl ?_
                      refine G_not (b' := true) (dj := 86) rfl rfl rfl rfl ?_
                      refine G_not (b' := true) (dj := 86) rfl rfl rfl rfl ?_
                      refine G_not (b' := true) (dj := 86) rfl rfl rfl rfl ?_
                      refine G_val (dj := 77) rfl rfl hq137 (v := .bool true) (y_pick_t (ev_tv rfl rfl) ev_c) ?_
                      refine L_val (v := .bool true) (y_pick_t (ev_tv rfl hq137) (ev_tv rfl rfl)) ?_
                      refine l_nil ?_
                      refine then_norm ?_
                      refine hK135 _ _ ?_
                      clear hK135
                      refine cond_t (ev_tv rfl rfl) ?_
                      refine c_seq ?_
                      intro K141 hK141
                      refine c_region ?_
                      refine L_val (v := .bool false) (y_assign ev_c) ?_
                      refine l_nil ?_
                      refine then_norm ?_
                      refine hK141 _ _ ?_
                      clear hK141
                      refine c_ret ?_
                      refine block_ret ?_
                      refine block_ret ?_
                      refine then_ret ?_
                      refine then_ret ?_
                      refine block_ret ?_
                      refine then_ret ?_
                      exact body_1 rfl (ev_tv rfl rfl) H
                    · replace H := H.2 hb139
                      have hq140 : Value.bool (decide ((x78 : Int) < 0)) = Value.bool false := congrArg Value.bool (decide_eq_false hb139)
                      refine G_val (dj := 81) rfl rfl hq140 (v := .pointer (some ⟨b69, 0 + 1, none⟩)) (Try.fa32_1 (ev_tv rfl rfl)) ?_
                      obtain ⟨x79, hc142, H⟩ := H
                      refine G_val (dj := 81) rfl rfl hq140 (v := .int .i64 x79) (y_load Try.underlying3 rfl (ev_tv rfl rfl) hc142) ?_
                      refine G_val (dj := 81) rfl rfl hq140 (v := .bool (decide ((11 : Int) < x79))) (y_gtr (ev_tv rfl rfl) ev_c) ?_
                      refine G_val (dj := 77) rfl rfl hq137 (v := .bool (decide ((11 : Int) < x79))) (y_pick_f (ev_tv rfl hq140) (ev_tv rfl rfl)) ?_
                      refine G_val (dj := 77) rfl rfl hq137 (v := .bool (decide ((11 : Int) < x79))) (y_move (ev_tv rfl rfl)) ?_
                      rcases (Decidable.em ((11 : Int) < x79)) with hb143 | hb143
                      · replace H := H.1 hb143
                        have hq144 : Value.bool (decide ((11 : Int) < x79)) = Value.bool true := congrArg Value.bool (decide_eq_true hb143)
                        refine G_not (b' := true) (dj := 86) rfl rfl hq144 rfl ?_
                        refine G_not (b' := true) (dj := 86) rfl rfl hq144 rfl ?_
                        refine G_not (b' := true) (dj := 86) rfl rfl hq144 rfl ?_
                        refine G_not (b' := true) (dj := 86) rfl rfl hq144 rfl ?_
                        refine G_not (b' := true) (dj := 86) rfl rfl hq144 rfl ?_
                        refine G_not (b' := true) (dj := 86) rfl rfl hq144 rfl ?_
                        refine G_not (b' := true) (dj := 86) rfl rfl hq144 rfl ?_
                        refine G_not (b' := true) (dj := 86) rfl rfl hq144 rfl ?_
                        refine G_val (dj := 77) rfl rfl hq137 (v := .bool true) (y_pick_t (ev_tv rfl hq144) ev_c) ?_
                        refine L_val (v := .bool true) (y_pick_t (ev_tv rfl hq137) (ev_tv rfl rfl)) ?_
                        refine l_nil ?_
                        refine then_norm ?_
                        refine hK135 _ _ ?_
                        clear hK135
                        refine cond_t (ev_tv rfl rfl) ?_
                        refine c_seq ?_
                        intro K145 hK145
                        refine c_region ?_
                        refine L_val (v := .bool false) (y_assign ev_c) ?_
                        refine l_nil ?_
                        refine then_norm ?_
                        refine hK145 _ _ ?_
                        clear hK145
                        refine c_ret ?_
                        refine block_ret ?_
                        refine block_ret ?_
                        refine then_ret ?_
                        refine then_ret ?_
                        refine block_ret ?_
                        refine then_ret ?_
                        exact body_1 rfl (ev_tv rfl rfl) H
                      · replace H := H.2 hb143
                        have hq144 : Value.bool (decide ((11 : Int) < x79)) = Value.bool false := congrArg Value.bool (decide_eq_false hb143)
                        refine G_val (dj := 86) rfl rfl hq144 (v := .slice x74 x74l x74c) (y_move (ev_tv rfl rfl)) ?_
                        refine G_val (dj := 86) rfl rfl hq144 (v := .pointer (some ⟨b69, 0 + 1, none⟩)) (Try.fa32_1 (ev_tv rfl rfl)) ?_
                        obtain ⟨x80, hc146, H⟩ := H
                        refine G_val (dj := 86) rfl rfl hq144 (v := .int .i64 x80) (y_load Try.underlying3 rfl (ev_tv rfl rfl) hc146) ?_
                        obtain ⟨hi147, hi148, H⟩ := H
                        refine G_val (dj := 86) rfl rfl hq144 (v := .pointer (some ⟨b16, 0 + (x80 : Int).toNat * 1, none⟩)) (y_ixA Try.underlying46 Try.type5 rfl (ev_tv rfl ((hag109 9 rfl).trans rfl)) (ev_tv rfl rfl) hi147 hi148) ?_
                        obtain ⟨x81, hc149, H⟩ := H
                        refine G_val (dj := 86) rfl rfl hq144 (v := .int .u8 x81) (y_load Try.underlying5 rfl (ev_tv rfl rfl) hc149) ?_
                        refine G_call (dj := 86) rfl rfl hq144 (y_call Try.call12 (map_ev2 (ev_tv rfl rfl) ev_c) ev_f) (Calls.mono H ?_)
                        clear H
                        rintro _ w83 ⟨x82, x82l, x82c, rfl, H⟩
                        refine ⟨_, rfl, ?_⟩
                        refine G_call (dj := 86) rfl rfl hq144 (y_call Try.call10 (map_ev2 (ev_tv rfl rfl) (ev_tv rfl rfl)) ev_f) (Calls.mono H ?_)
                        clear H
                        rintro _ w86 ⟨x85, rfl, H⟩
                        refine ⟨_, rfl, ?_⟩
                        rcases Bool.eq_false_or_eq_true x85 with hb150 | hb150
                        · replace H := H.1 hb150
                          have hq151 : Value.bool (x85) = Value.bool true := congrArg Value.bool hb150
                          refine G_val (dj := 86) rfl rfl hq144 (v := .bool false) (y_not_t (ev_tv rfl hq151)) ?_
                          refine G_val (dj := 77) rfl rfl hq137 (v := .bool false) (y_pick_f (ev_tv rfl hq144) (ev_tv rfl rfl)) ?_
                          refine L_val (v := .bool false) (y_pick_t (ev_tv rfl hq137) (ev_tv rfl rfl)) ?_
                          refine l_nil ?_
                          refine then_norm ?_
                          refine hK135 _ _ ?_
                          clear hK135
                          refine cond_f (ev_tv rfl rfl) ?_
                          refine c_skip ?_
                          refine block_norm ?_
                          refine block_norm ?_
                          refine then_norm ?_
                          refine hK118 _ _ ?_
                          clear hK118
                          refine c_region ?_
                          refine L_val (v := .int .i64 v60) (y_move (ev_tv rfl hs113)) ?_
                          obtain ⟨r88, hr152⟩ : ∃ r88 : Int, r88 = IntKind.wrap .i64 (v60 + 1) := ⟨_, rfl⟩
                          replace H := H r88 hr152
                          refine L_val (v := .int .i64 r88) (y_add (ev_tv rfl rfl) ev_c hr152) ?_
                          refine L_val (v := .int .i64 r88) (y_assign (ev_tv rfl rfl)) ?_
                          refine l_nil ?_
                          refine then_norm ?_
                          obtain ⟨m89, hm153, H⟩ := H
                          exact ⟨_, rfl, (by repeat (first | exact agree_refl | exact hag109 | exact hag18 | refine agree_upd rfl ?_ | refine agree_via hag109 rfl ?_ | refine agree_via hag18 rfl ?_)), m89, hm153, _, rfl, H⟩
                        · replace H := H.2 hb150
                          have hq151 : Value.bool (x85) = Value.bool false := congrArg Value.bool hb150
                          refine G_val (dj := 86) rfl rfl hq144 (v := .bool true) (y_not_f (ev_tv rfl hq151)) ?_
                          refine G_val (dj := 77) rfl rfl hq137 (v := .bool true) (y_pick_f (ev_tv rfl hq144) (ev_tv rfl rfl)) ?_
                          refine L_val (v := .bool true) (y_pick_t (ev_tv rfl hq137) (ev_tv rfl rfl)) ?_
                          refine l_nil ?_
                          refine then_norm ?_
                          refine hK135 _ _ ?_
                          clear hK135
                          refine cond_t (ev_tv rfl rfl) ?_
                          refine c_seq ?_
                          intro K154 hK154
                          refine c_region ?_
                          refine L_val (v := .bool false) (y_assign ev_c) ?_
                          refine l_nil ?_
                          refine then_norm ?_
                          refine hK154 _ _ ?_
                          clear hK154
                          refine c_ret ?_
                          refine block_ret ?_
                          refine block_ret ?_
                          refine then_ret ?_
                          refine then_ret ?_
                          refine block_ret ?_
                          refine then_ret ?_
                          exact body_1 rfl (ev_tv rfl rfl) H
                  · replace H := H.2 hb136
                    have hq137 : Value.bool (decide ((x75 : Int) = 0)) = Value.bool false := congrArg Value.bool (decide_eq_false hb136)
                    refine G_not (b' := false) (dj := 77) rfl rfl hq137 rfl ?_
                    refine G_not (b' := false) (dj := 77) rfl rfl hq137 rfl ?_
                    refine G_not (b' := false) (dj := 77) rfl rfl hq137 rfl ?_
                    refine G_not (b' := false) (dj := 77) rfl rfl hq137 rfl ?_
                    refine G_und (dj := 81) rfl rfl rfl ?_
                    refine G_und (dj := 81) rfl rfl rfl ?_
                    refine G_und (dj := 81) rfl rfl rfl ?_
                    refine G_not (b' := false) (dj := 77) rfl rfl hq137 rfl ?_
                    refine G_not (b' := false) (dj := 77) rfl rfl hq137 rfl ?_
                    refine G_und (dj := 86) rfl rfl rfl ?_
                    refine G_und (dj := 86) rfl rfl rfl ?_
                    refine G_und (dj := 86) rfl rfl rfl ?_
                    refine G_und (dj := 86) rfl rfl rfl ?_
                    refine G_und (dj := 86) rfl rfl rfl ?_
                    refine G_und (dj := 86) rfl rfl rfl ?_
                    refine G_und (dj := 86) rfl rfl rfl ?_
                    refine G_und (dj := 86) rfl rfl rfl ?_
                    refine G_not (b' := false) (dj := 77) rfl rfl hq137 rfl ?_
                    refine L_val (v := .bool false) (y_pick_f (ev_tv rfl hq137) ev_c) ?_
                    refine l_nil ?_
                    refine then_norm ?_
                    refine hK135 _ _ ?_
                    clear hK135
                    refine cond_f (ev_tv rfl rfl) ?_
                    refine c_skip ?_
                    refine block_norm ?_
                    refine block_norm ?_
                    refine then_norm ?_
                    refine hK118 _ _ ?_
                    clear hK118
                    refine c_region ?_
                    refine L_val (v := .int .i64 v60) (y_move (ev_tv rfl hs113)) ?_
                    obtain ⟨r90, hr155⟩ : ∃ r90 : Int, r90 = IntKind.wrap .i64 (v60 + 1) := ⟨_, rfl⟩
                    replace H := H r90 hr155
                    refine L_val (v := .int .i64 r90) (y_add (ev_tv rfl rfl) ev_c hr155) ?_
                    refine L_val (v := .int .i64 r90) (y_assign (ev_tv rfl rfl)) ?_
                    refine l_nil ?_
                    refine then_norm ?_
                    obtain ⟨m91, hm156, H⟩ := H
                    exact ⟨_, rfl, (by repeat (first | exact agree_refl | exact hag109 | exact hag18 | refine agree_upd rfl ?_ | refine agree_via hag109 rfl ?_ | refine agree_via hag18 rfl ?_)), m91, hm156, _, rfl, H⟩
                · replace H := H.2 hb131
                  have hq132 : Value.bool (decide ((x72 : Int) = 1)) = Value.bool false := congrArg Value.bool (decide_eq_false hb131)
                  refine cond_f (ev_tv rfl hq132) ?_
                  refine c_seq ?_
                  intro K157 hK157
                  refine c_region ?_
                  refine L_val (v := .bool (decide ((x72 : Int) = 2))) (y_ieq (ev_tv rfl rfl) ev_c) ?_
                  refine L_val (v := .bool (decide ((x72 : Int) = 2))) (y_assign (ev_tv rfl rfl)) ?_
                  refine l_nil ?_
                  refine then_norm ?_
                  refine hK157 _ _ ?_
                  clear hK157
                  rcases (Decidable.em ((x72 : Int) = 2)) with hb158 | hb158
                  · replace H := H.1 hb158
                    have hq159 : Value.bool (decide ((x72 : Int) = 2)) = Value.bool true := congrArg Value.bool (decide_eq_true hb158)
                    refine cond_t (ev_tv rfl hq159) ?_
                    refine c_seq ?_
                    intro K160 hK160
                    refine D_start Try.mixed rfl [5, 6] ?_
                    refine start_keep fun hS => ?_
                    refine D_pure (i := 0) (v := .pointer x10) rfl (by kernel_rfl) (W_none rfl) (fun _ => y_move (ev_tv rfl ((hag109 7 rfl).trans ((hag18 7 rfl).trans rfl)))) hS ?_
                    intro hS
                    refine D_pure (i := 1) (v := .pointer (some ⟨b69, 0 + 1, none⟩)) rfl (by kernel_rfl) (W_none rfl) (fun _ => Try.fa32_1 (ev_tv rfl rfl)) hS ?_
                    intro hS
                    refine D_pure (i := 3) (v := .pointer (some ⟨b69, 0 + 2, none⟩)) rfl (by kernel_rfl) (W_none rfl) (fun _ => Try.fa32_2 (ev_tv rfl rfl)) hS ?_
                    intro hS
                    obtain ⟨x92, hc161, H⟩ := H
                    refine D_read (i := 2) (v := .int .i64 x92) rfl (by kernel_rfl) (W_none rfl) (fun wx => World.cell? wx ⟨b69, 0 + 1, none⟩ = some (.int .i64 x92)) hc161 (fun _ hcx => y_load Try.underlying3 rfl (ev_tv rfl rfl) hcx) hS ?_
                    intro hS
                    obtain ⟨x93, hc162, H⟩ := H
                    refine D_read (i := 4) (v := .int .u8 x93) rfl (by kernel_rfl) (W_none rfl) (fun wx => World.cell? wx ⟨b69, 0 + 2, none⟩ = some (.int .u8 x93)) hc162 (fun _ hcx => y_load Try.underlying5 rfl (ev_tv rfl rfl) hcx) hS ?_
                    intro hS
                    refine D_only (i := 5) (by kernel_rfl) rfl ?_
                    refine O_call (i := 5) rfl (W_none rfl) (y_call Try.call12 (map_ev2 (ev_tv rfl rfl) ev_c) ev_f) (Calls.mono H ?_)
                    clear H
                    rintro _ w95 ⟨x94, x94l, x94c, rfl, H⟩
                    refine ⟨_, rfl, ?_⟩
                    obtain ⟨hs187, H⟩ := H
                    refine and_keep (SS_off (by kernel_rfl) (SS_on hs187 SS_nil)) fun hS => ?_
                    refine D_only (i := 6) (by kernel_rfl) rfl ?_
                    refine O_call (i := 6) rfl (W_none rfl) (y_call Try.call11 (map_ev3 (ev_tv rfl rfl) (ev_tv rfl rfl) (ev_tv rfl rfl)) ev_f) (Calls.mono H ?_)
                    clear H
                    rintro _ w97 ⟨x96, rfl, H⟩
                    refine ⟨_, rfl, ?_⟩
                    refine and_keep (SS_off (by kernel_rfl) (SS_off (by kernel_rfl) SS_nil)) fun hS => ?_
                    refine D_pure (i := 7) (v := .int .i64 x96) rfl (by kernel_rfl) (W_none rfl) (fun _ => y_assign (ev_tv rfl rfl)) hS ?_
                    intro hS
                    refine D_done (by kernel_rfl) ?_
                    refine then_norm ?_
                    refine hK160 _ _ ?_
                    clear hK160
                    refine c_seq ?_
                    intro K163 hK163
                    refine c_region ?_
                    refine L_val (v := .int .i64 x96) (y_move (ev_tv rfl rfl)) ?_
                    refine L_val (v := .bool (decide ((x96 : Int) = 0))) (y_ieq (ev_tv rfl rfl) ev_c) ?_
                    refine l_nil ?_
                    refine then_norm ?_
                    refine hK163 _ _ ?_
                    clear hK163
                    rcases (Decidable.em ((x96 : Int) = 0)) with hb164 | hb164
                    · replace H := H.1 hb164
                      have hq165 : Value.bool (decide ((x96 : Int) = 0)) = Value.bool true := congrArg Value.bool (decide_eq_true hb164)
                      refine cond_t (ev_tv rfl hq165) ?_
                      refine c_seq ?_
                      intro K166 hK166
                      refine c_seq ?_
                      intro K167 hK167
                      refine c_region ?_
                      refine L_val (v := .pointer (some ⟨b69, 0 + 1, none⟩)) (Try.fa32_1 (ev_tv rfl rfl)) ?_
                      obtain ⟨x98, hc168, H⟩ := H
                      refine L_val (v := .int .i64 x98) (y_load Try.underlying3 rfl (ev_tv rfl rfl) hc168) ?_
                      refine L_val (v := .bool (decide ((x98 : Int) < 0))) (y_lss (ev_tv rfl rfl) ev_c) ?_
                      refine L_val (v := .bool (decide ((x98 : Int) < 0))) (y_move (ev_tv rfl rfl)) ?_
                      rcases (Decidable.em ((x98 : Int) < 0)) with hb169 | hb169
                      · replace H := H.1 hb169
                        have hq170 : Value.bool (decide ((x98 : Int) < 0)) = Value.bool true := congrArg Value.bool (decide_eq_true hb169)
                        refine G_not (b' := true) (dj := 111) rfl rfl hq170 rfl ?_
                        refine G_not (b' := true) (dj := 111) rfl rfl hq170 rfl ?_
                        refine G_not (b' := true) (dj := 111) rfl rfl hq170 rfl ?_
                        refine L_val (v := .bool true) (y_pick_t (ev_tv rfl hq170) ev_c) ?_
                        refine l_nil ?_
                        refine then_norm ?_
                        refine hK167 _ _ ?_
                        clear hK167
                        refine cond_t (ev_tv rfl rfl) ?_
                        refine c_seq ?_
                        intro K171 hK171
                        refine c_region ?_
                        refine L_val (v := .bool false) (y_assign ev_c) ?_
                        refine l_nil ?_
                        refine then_norm ?_
                        refine hK171 _ _ ?_
                        clear hK171
                        refine c_ret ?_
                        refine then_ret ?_
                        refine block_ret ?_
                        refine block_ret ?_
                        refine then_ret ?_
                        refine then_ret ?_
                        refine block_ret ?_
                        refine then_ret ?_
                        exact body_1 rfl (ev_tv rfl rfl) H
                      · replace H := H.2 hb169
                        have hq170 : Value.bool (decide ((x98 : Int) < 0)) = Value.bool false := congrArg Value.bool (decide_eq_false hb169)
                        refine G_val (dj := 111) rfl rfl hq170 (v := .pointer (some ⟨b69, 0 + 1, none⟩)) (Try.fa32_1 (ev_tv rfl rfl)) ?_
                        obtain ⟨x99, hc172, H⟩ := H
                        refine G_val (dj := 111) rfl rfl hq170 (v := .int .i64 x99) (y_load Try.underlying3 rfl (ev_tv rfl rfl) hc172) ?_
                        refine G_val (dj := 111) rfl rfl hq170 (v := .bool (decide ((11 : Int) < x99))) (y_gtr (ev_tv rfl rfl) ev_c) ?_
                        refine L_val (v := .bool (decide ((11 : Int) < x99))) (y_pick_f (ev_tv rfl hq170) (ev_tv rfl rfl)) ?_
                        refine l_nil ?_
                        refine then_norm ?_
                        refine hK167 _ _ ?_
                        clear hK167
                        rcases (Decidable.em ((11 : Int) < x99)) with hb173 | hb173
                        · replace H := H.1 hb173
                          have hq174 : Value.bool (decide ((11 : Int) < x99)) = Value.bool true := congrArg Value.bool (decide_eq_true hb173)
                          refine cond_t (ev_tv rfl hq174) ?_
                          refine c_seq ?_
                          intro K175 hK175
                          refine c_region ?_
                          refine L_val (v := .bool false) (y_assign ev_c) ?_
                          refine l_nil ?_
                          refine then_norm ?_
                          refine hK175 _ _ ?_
                          clear hK175
                          refine c_ret ?_
                          refine then_ret ?_
                          refine block_ret ?_
                          refine block_ret ?_
                          refine then_ret ?_
                          refine then_ret ?_
                          refine block_ret ?_
                          refine then_ret ?_
                          exact body_1 rfl (ev_tv rfl rfl) H
                        · replace H := H.2 hb173
                          have hq174 : Value.bool (decide ((11 : Int) < x99)) = Value.bool false := congrArg Value.bool (decide_eq_false hb173)
                          refine cond_f (ev_tv rfl hq174) ?_
                          refine c_skip ?_
                          refine then_norm ?_
                          refine hK166 _ _ ?_
                          clear hK166
                          refine c_region ?_
                          refine L_val (v := .pointer (some ⟨b69, 0 + 1, none⟩)) (Try.fa32_1 (ev_tv rfl rfl)) ?_
                          obtain ⟨x100, hc176, H⟩ := H
                          refine L_val (v := .int .i64 x100) (y_load Try.underlying3 rfl (ev_tv rfl rfl) hc176) ?_
                          refine L_val (v := .pointer (some ⟨b69, 0 + 2, none⟩)) (Try.fa32_2 (ev_tv rfl rfl)) ?_
                          obtain ⟨x101, hc177, H⟩ := H
                          refine L_val (v := .int .u8 x101) (y_load Try.underlying5 rfl (ev_tv rfl rfl) hc177) ?_
                          obtain ⟨hi178, hi179, H⟩ := H
                          refine L_val (v := .pointer (some ⟨b16, 0 + (x100 : Int).toNat * 1, none⟩)) (y_ixA Try.underlying46 Try.type5 rfl (ev_tv rfl ((hag109 9 rfl).trans rfl)) (ev_tv rfl rfl) hi178 hi179) ?_
                          obtain ⟨hc180, hf181, H⟩ := H
                          obtain ⟨w102, hw182⟩ : ∃ w102 : World, w102 = World.setCell w97 ⟨b16, 0 + (x100 : Int).toNat * 1, none⟩ (.int .u8 x101) := ⟨_, rfl⟩
                          replace H := H w102 hw182
                          refine L_skip (y_store Try.type5 rfl rfl (ev_tv rfl rfl) (ev_tv rfl rfl) hc180 hf181 hw182) ?_
                          refine l_nil ?_
                          refine block_norm ?_
                          refine block_norm ?_
                          refine then_norm ?_
                          refine hK118 _ _ ?_
                          clear hK118
                          refine c_region ?_
                          refine L_val (v := .int .i64 v60) (y_move (ev_tv rfl hs113)) ?_
                          obtain ⟨r103, hr183⟩ : ∃ r103 : Int, r103 = IntKind.wrap .i64 (v60 + 1) := ⟨_, rfl⟩
                          replace H := H r103 hr183
                          refine L_val (v := .int .i64 r103) (y_add (ev_tv rfl rfl) ev_c hr183) ?_
                          refine L_val (v := .int .i64 r103) (y_assign (ev_tv rfl rfl)) ?_
                          refine l_nil ?_
                          refine then_norm ?_
                          obtain ⟨m104, hm184, H⟩ := H
                          exact ⟨_, rfl, (by repeat (first | exact agree_refl | exact hag109 | exact hag18 | refine agree_upd rfl ?_ | refine agree_via hag109 rfl ?_ | refine agree_via hag18 rfl ?_)), m104, hm184, _, rfl, H⟩
                    · replace H := H.2 hb164
                      have hq165 : Value.bool (decide ((x96 : Int) = 0)) = Value.bool false := congrArg Value.bool (decide_eq_false hb164)
                      refine cond_f (ev_tv rfl hq165) ?_
                      refine c_skip ?_
                      refine block_norm ?_
                      refine block_norm ?_
                      refine then_norm ?_
                      refine hK118 _ _ ?_
                      clear hK118
                      refine c_region ?_
                      refine L_val (v := .int .i64 v60) (y_move (ev_tv rfl hs113)) ?_
                      obtain ⟨r105, hr185⟩ : ∃ r105 : Int, r105 = IntKind.wrap .i64 (v60 + 1) := ⟨_, rfl⟩
                      replace H := H r105 hr185
                      refine L_val (v := .int .i64 r105) (y_add (ev_tv rfl rfl) ev_c hr185) ?_
                      refine L_val (v := .int .i64 r105) (y_assign (ev_tv rfl rfl)) ?_
                      refine l_nil ?_
                      refine then_norm ?_
                      obtain ⟨m106, hm186, H⟩ := H
                      exact ⟨_, rfl, (by repeat (first | exact agree_refl | exact hag109 | exact hag18 | refine agree_upd rfl ?_ | refine agree_via hag109 rfl ?_ | refine agree_via hag18 rfl ?_)), m106, hm186, _, rfl, H⟩
                  · replace H := H.2 hb158
                    have hq159 : Value.bool (decide ((x72 : Int) = 2)) = Value.bool false := congrArg Value.bool (decide_eq_false hb158)
                    refine cond_f (ev_tv rfl hq159) ?_
                    refine c_seq ?_
                    intro K188 hK188
                    refine c_region ?_
                    refine L_val (v := .bool (decide ((x72 : Int) = 3))) (y_ieq (ev_tv rfl rfl) ev_c) ?_
                    refine L_val (v := .bool (decide ((x72 : Int) = 3))) (y_assign (ev_tv rfl rfl)) ?_
                    refine l_nil ?_
                    refine then_norm ?_
                    refine hK188 _ _ ?_
                    clear hK188
                    rcases (Decidable.em ((x72 : Int) = 3)) with hb189 | hb189
                    · replace H := H.1 hb189
                      have hq190 : Value.bool (decide ((x72 : Int) = 3)) = Value.bool true := congrArg Value.bool (decide_eq_true hb189)
                      refine cond_t (ev_tv rfl hq190) ?_
                      refine c_region ?_
                      refine L_val (v := .pointer x10) (y_move (ev_tv rfl ((hag109 7 rfl).trans ((hag18 7 rfl).trans rfl)))) ?_
                      refine L_val (v := .pointer (some ⟨b69, 0 + 1, none⟩)) (Try.fa32_1 (ev_tv rfl rfl)) ?_
                      obtain ⟨x107, hc191, H⟩ := H
                      refine L_val (v := .int .i64 x107) (y_load Try.underlying3 rfl (ev_tv rfl rfl) hc191) ?_
                      refine L_call (y_call Try.call13 (map_ev2 (ev_tv rfl rfl) (ev_tv rfl rfl)) ev_f) (Calls.mono H ?_)
                      clear H
                      rintro _ w110 ⟨x108, x109, rfl, H⟩
                      refine ⟨_, rfl, ?_⟩
                      refine l_nil ?_
                      refine block_norm ?_
                      refine block_norm ?_
                      refine then_norm ?_
                      refine hK118 _ _ ?_
                      clear hK118
                      refine c_region ?_
                      refine L_val (v := .int .i64 v60) (y_move (ev_tv rfl hs113)) ?_
                      obtain ⟨r112, hr192⟩ : ∃ r112 : Int, r112 = IntKind.wrap .i64 (v60 + 1) := ⟨_, rfl⟩
                      replace H := H r112 hr192
                      refine L_val (v := .int .i64 r112) (y_add (ev_tv rfl rfl) ev_c hr192) ?_
                      refine L_val (v := .int .i64 r112) (y_assign (ev_tv rfl rfl)) ?_
                      refine l_nil ?_
                      refine then_norm ?_
                      obtain ⟨m113, hm193, H⟩ := H
                      exact ⟨_, rfl, (by repeat (first | exact agree_refl | exact hag109 | exact hag18 | refine agree_upd rfl ?_ | refine agree_via hag109 rfl ?_ | refine agree_via hag18 rfl ?_)), m113, hm193, _, rfl, H⟩
                    · replace H := H.2 hb189
                      have hq190 : Value.bool (decide ((x72 : Int) = 3)) = Value.bool false := congrArg Value.bool (decide_eq_false hb189)
                      refine cond_f (ev_tv rfl hq190) ?_
                      refine c_seq ?_
                      intro K194 hK194
                      refine c_region ?_
                      refine L_val (v := .bool (decide ((x72 : Int) = 4))) (y_ieq (ev_tv rfl rfl) ev_c) ?_
                      refine L_val (v := .bool (decide ((x72 : Int) = 4))) (y_assign (ev_tv rfl rfl)) ?_
                      refine l_nil ?_
                      refine then_norm ?_
                      refine hK194 _ _ ?_
                      clear hK194
                      rcases (Decidable.em ((x72 : Int) = 4)) with hb195 | hb195
                      · replace H := H.1 hb195
                        have hq196 : Value.bool (decide ((x72 : Int) = 4)) = Value.bool true := congrArg Value.bool (decide_eq_true hb195)
                        refine cond_t (ev_tv rfl hq196) ?_
                        refine c_region ?_
                        refine L_val (v := .pointer x10) (y_move (ev_tv rfl ((hag109 7 rfl).trans ((hag18 7 rfl).trans rfl)))) ?_
                        refine L_call (y_call Try.call14 (map_ev1 (ev_tv rfl rfl)) ev_f) (Calls.mono H ?_)
                        clear H
                        rintro _ w115 ⟨x114, rfl, H⟩
                        refine ⟨_, rfl, ?_⟩
                        refine l_nil ?_
                        refine block_norm ?_
                        refine block_norm ?_
                        refine then_norm ?_
                        refine hK118 _ _ ?_
                        clear hK118
                        refine c_region ?_
                        refine L_val (v := .int .i64 v60) (y_move (ev_tv rfl hs113)) ?_
                        obtain ⟨r117, hr197⟩ : ∃ r117 : Int, r117 = IntKind.wrap .i64 (v60 + 1) := ⟨_, rfl⟩
                        replace H := H r117 hr197
                        refine L_val (v := .int .i64 r117) (y_add (ev_tv rfl rfl) ev_c hr197) ?_
                        refine L_val (v := .int .i64 r117) (y_assign (ev_tv rfl rfl)) ?_
                        refine l_nil ?_
                        refine then_norm ?_
                        obtain ⟨m118, hm198, H⟩ := H
                        exact ⟨_, rfl, (by repeat (first | exact agree_refl | exact hag109 | exact hag18 | refine agree_upd rfl ?_ | refine agree_via hag109 rfl ?_ | refine agree_via hag18 rfl ?_)), m118, hm198, _, rfl, H⟩
                      · replace H := H.2 hb195
                        have hq196 : Value.bool (decide ((x72 : Int) = 4)) = Value.bool false := congrArg Value.bool (decide_eq_false hb195)
                        refine cond_f (ev_tv rfl hq196) ?_
                        refine c_skip ?_
                        refine block_norm ?_
                        refine block_norm ?_
                        refine then_norm ?_
                        refine hK118 _ _ ?_
                        clear hK118
                        refine c_region ?_
                        refine L_val (v := .int .i64 v60) (y_move (ev_tv rfl hs113)) ?_
                        obtain ⟨r119, hr199⟩ : ∃ r119 : Int, r119 = IntKind.wrap .i64 (v60 + 1) := ⟨_, rfl⟩
                        replace H := H r119 hr199
                        refine L_val (v := .int .i64 r119) (y_add (ev_tv rfl rfl) ev_c hr199) ?_
                        refine L_val (v := .int .i64 r119) (y_assign (ev_tv rfl rfl)) ?_
                        refine l_nil ?_
                        refine then_norm ?_
                        obtain ⟨m120, hm200, H⟩ := H
                        exact ⟨_, rfl, (by repeat (first | exact agree_refl | exact hag109 | exact hag18 | refine agree_upd rfl ?_ | refine agree_via hag109 rfl ?_ | refine agree_via hag18 rfl ?_)), m120, hm200, _, rfl, H⟩
              · replace H := H.2 hb116
                have hq117 : Value.bool (decide ((v60 : Int) < ((a_l2l : Nat) : Int))) = Value.bool false := congrArg Value.bool (decide_eq_false hb116)
                refine cond_f (ev_tv rfl hq117) ?_
                refine c_exit ?_
                refine then_exit ?_
                refine then_exit ?_
                refine block_hit ?_
                refine then_norm ?_
                exact hK35 _ _ (by repeat (first | exact agree_refl | exact hag109 | exact hag18 | refine agree_upd rfl ?_ | refine agree_via hag109 rfl ?_ | refine agree_via hag18 rfl ?_)) H
            · clear H
              intro f32 w18 hag33 HJ34
              have H := hJ31  w18 HJ34
              clear hJ31
              refine c_seq ?_
              intro K36 hK36
              refine c_region ?_
              refine L_val (v := .pointer x10) (y_move (ev_tv rfl ((hag33 7 rfl).trans ((hag18 7 rfl).trans rfl)))) ?_
              refine L_call (y_call Try.call15 (map_ev1 (ev_tv rfl rfl)) ev_f) (Calls.mono H ?_)
              clear H
              rintro _ w20 ⟨x19, x19l, x19c, rfl, H⟩
              refine ⟨_, rfl, ?_⟩
              refine L_val (v := .slice x19 x19l x19c) (y_assign (ev_tv rfl rfl)) ?_
              refine l_nil ?_
              refine then_norm ?_
              refine hK36 _ _ ?_
              clear hK36
              obtain ⟨J37, hJ38, H⟩ := H
              refine c_seqJ [(4, 4), (16, 18), (133, 153)] (fun ff ww => J37  ww) ?_ ?_
              · clear hJ38
                intro K42 hK42
                refine c_seq ?_
                intro K80 hK80
                refine c_region ?_
                refine L_val (v := .int .i64 0) (y_assign ev_c) ?_
                refine l_nil ?_
                refine then_norm ?_
                refine hK80 _ _ ?_
                clear hK80
                refine c_block ?_
                obtain ⟨I81, ⟨m85, HI86⟩, H⟩ := H
                refine loop_fr ([(4, 4), (16, 18), (133, 153)]) (fun m ff ww => ∃ (v48 : Int), ff 16 = (.int .i64 v48 : Value) ∧ I81 m v48 ww) m85 ⟨0, rfl, HI86⟩ ?_
                rintro m49 f82 w50 hag83 ⟨v48, hs87, HI84⟩
                replace H := H m49 v48 w50 HI84
                refine c_seq ?_
                intro K88 hK88
                refine c_seq ?_
                intro K89 hK89
                refine c_region ?_
                refine L_val (v := .int .i64 v48) (y_move (ev_tv rfl hs87)) ?_
                refine L_val (v := .slice x19 x19l x19c) (y_move (ev_tv rfl ((hag83 15 rfl).trans rfl))) ?_
                refine L_val (v := .int .i64 ((x19l : Nat) : Int)) (y_len Try.underlying43 rfl (map_ev1 (ev_tv rfl rfl))) ?_
                refine L_val (v := .bool (decide ((v48 : Int) < ((x19l : Nat) : Int)))) (y_lss (ev_tv rfl rfl) (ev_tv rfl rfl)) ?_
                refine l_nil ?_
                refine then_norm ?_
                refine hK89 _ _ ?_
                clear hK89
                rcases (Decidable.em ((v48 : Int) < ((x19l : Nat) : Int))) with hb90 | hb90
                · replace H := H.1 hb90
                  have hq91 : Value.bool (decide ((v48 : Int) < ((x19l : Nat) : Int))) = Value.bool true := congrArg Value.bool (decide_eq_true hb90)
                  refine cond_t (ev_tv rfl hq91) ?_
                  refine c_skip ?_
                  refine then_norm ?_
                  refine hK88 _ _ ?_
                  clear hK88
                  refine c_seq ?_
                  intro K92 hK92
                  refine c_block ?_
                  refine c_seq ?_
                  intro K93 hK93
                  refine c_region ?_
                  refine L_val (v := .pointer x10) (y_move (ev_tv rfl ((hag83 7 rfl).trans ((hag33 7 rfl).trans ((hag18 7 rfl).trans rfl))))) ?_
                  refine L_val (v := .slice x19 x19l x19c) (y_move (ev_tv rfl ((hag83 15 rfl).trans rfl))) ?_
                  refine L_val (v := .int .i64 v48) (y_move (ev_tv rfl hs87)) ?_
                  obtain ⟨b51, o52, rfl, H⟩ := H
                  obtain ⟨hi94, hi95, H⟩ := H
                  refine L_val (v := .pointer (some ⟨b51, o52 + (v48 : Int).toNat, none⟩)) (y_ix1 Try.underlying43 Try.type3 rfl (ev_tv rfl rfl) (ev_tv rfl rfl) hi94 hi95) ?_
                  obtain ⟨x53, hc96, H⟩ := H
                  refine L_val (v := .int .i64 x53) (y_load Try.underlying3 rfl (ev_tv rfl rfl) hc96) ?_
                  refine L_call (y_call Try.call13 (map_ev2 (ev_tv rfl rfl) (ev_tv rfl rfl)) ev_f) (Calls.mono H ?_)
                  clear H
                  rintro _ w56 ⟨x54, x55, rfl, H⟩
                  refine ⟨_, rfl, ?_⟩
                  refine L_val (v := .tuple #[.bool x54, .int .i64 x55]) (y_move (ev_tv rfl rfl)) ?_
                  refine L_val (v := .bool x54) (y_extract (ev_tv rfl rfl) rfl) ?_
                  refine L_val (v := .int .i64 x55) (y_extract (ev_tv rfl rfl) rfl) ?_
                  refine L_val (v := .bool x54) (y_assign (ev_tv rfl rfl)) ?_
                  refine L_val (v := .int .i64 x55) (y_assign (ev_tv rfl rfl)) ?_
                  refine l_nil ?_
                  refine then_norm ?_
                  refine hK93 _ _ ?_
                  clear hK93
                  refine c_seq ?_
                  intro K97 hK97
                  refine c_region ?_
                  refine L_val (v := .bool x54) (y_move (ev_tv rfl rfl)) ?_
                  rcases Bool.eq_false_or_eq_true x54 with hb98 | hb98
                  · replace H := H.1 hb98
                    have hq99 : Value.bool (x54) = Value.bool true := congrArg Value.bool hb98
                    refine L_val (v := .bool false) (y_not_t (ev_tv rfl hq99)) ?_
                    refine L_val (v := .bool false) (y_move (ev_tv rfl rfl)) ?_
                    refine G_val (dj := 150) rfl rfl rfl (v := .int .i64 x55) (y_move (ev_tv rfl rfl)) ?_
                    refine G_val (dj := 150) rfl rfl rfl (v := .bool (!decide ((x55 : Int) = 0))) (y_ine (ev_tv rfl rfl) ev_c) ?_
                    refine L_val (v := .bool (!decide ((x55 : Int) = 0))) (y_pick_f (ev_tv rfl rfl) (ev_tv rfl rfl)) ?_
                    refine l_nil ?_
                    refine then_norm ?_
                    refine hK97 _ _ ?_
                    clear hK97
                    rcases (Decidable.em ((x55 : Int) = 0)).symm with hb100 | hb100
                    · replace H := H.1 hb100
                      have hq101 : Value.bool (!decide ((x55 : Int) = 0)) = Value.bool true := congrArg Value.bool (ndec_t hb100)
                      refine cond_t (ev_tv rfl hq101) ?_
                      refine c_seq ?_
                      intro K102 hK102
                      refine c_region ?_
                      refine L_val (v := .bool false) (y_assign ev_c) ?_
                      refine l_nil ?_
                      refine then_norm ?_
                      refine hK102 _ _ ?_
                      clear hK102
                      refine c_ret ?_
                      refine block_ret ?_
                      refine then_ret ?_
                      refine then_ret ?_
                      refine block_ret ?_
                      refine then_ret ?_
                      exact body_1 rfl (ev_tv rfl rfl) H
                    · replace H := H.2 hb100
                      have hq101 : Value.bool (!decide ((x55 : Int) = 0)) = Value.bool false := congrArg Value.bool (ndec_f hb100)
                      refine cond_f (ev_tv rfl hq101) ?_
                      refine c_skip ?_
                      refine block_norm ?_
                      refine then_norm ?_
                      refine hK92 _ _ ?_
                      clear hK92
                      refine c_region ?_
                      refine L_val (v := .int .i64 v48) (y_move (ev_tv rfl hs87)) ?_
                      obtain ⟨r58, hr103⟩ : ∃ r58 : Int, r58 = IntKind.wrap .i64 (v48 + 1) := ⟨_, rfl⟩
                      replace H := H r58 hr103
                      refine L_val (v := .int .i64 r58) (y_add (ev_tv rfl rfl) ev_c hr103) ?_
                      refine L_val (v := .int .i64 r58) (y_assign (ev_tv rfl rfl)) ?_
                      refine l_nil ?_
                      refine then_norm ?_
                      obtain ⟨m59, hm104, H⟩ := H
                      exact ⟨_, rfl, (by repeat (first | exact agree_refl | exact hag83 | exact hag33 | exact hag18 | refine agree_upd rfl ?_ | refine agree_via hag83 rfl ?_ | refine agree_via hag33 rfl ?_ | refine agree_via hag18 rfl ?_)), m59, hm104, _, rfl, H⟩
                  · replace H := H.2 hb98
                    have hq99 : Value.bool (x54) = Value.bool false := congrArg Value.bool hb98
                    refine L_val (v := .bool true) (y_not_f (ev_tv rfl hq99)) ?_
                    refine L_val (v := .bool true) (y_move (ev_tv rfl rfl)) ?_
                    refine G_not (b' := true) (dj := 150) rfl rfl rfl rfl ?_
                    refine G_not (b' := true) (dj := 150) rfl rfl rfl rfl ?_
                    refine L_val (v := .bool true) (y_pick_t (ev_tv rfl rfl) ev_c) ?_
                    refine l_nil ?_
                    refine then_norm ?_
                    refine hK97 _ _ ?_
                    clear hK97
                    refine cond_t (ev_tv rfl rfl) ?_
                    refine c_seq ?_
                    intro K105 hK105
                    refine c_region ?_
                    refine L_val (v := .bool false) (y_assign ev_c) ?_
                    refine l_nil ?_
                    refine then_norm ?_
                    refine hK105 _ _ ?_
                    clear hK105
                    refine c_ret ?_
                    refine block_ret ?_
                    refine then_ret ?_
                    refine then_ret ?_
                    refine block_ret ?_
                    refine then_ret ?_
                    exact body_1 rfl (ev_tv rfl rfl) H
                · replace H := H.2 hb90
                  have hq91 : Value.bool (decide ((v48 : Int) < ((x19l : Nat) : Int))) = Value.bool false := congrArg Value.bool (decide_eq_false hb90)
                  refine cond_f (ev_tv rfl hq91) ?_
                  refine c_exit ?_
                  refine then_exit ?_
                  refine then_exit ?_
                  refine block_hit ?_
                  refine then_norm ?_
                  exact hK42 _ _ (by repeat (first | exact agree_refl | exact hag83 | exact hag33 | exact hag18 | refine agree_upd rfl ?_ | refine agree_via hag83 rfl ?_ | refine agree_via hag33 rfl ?_ | refine agree_via hag18 rfl ?_)) H
              · clear H
                intro f39 w22 hag40 HJ41
                have H := hJ38  w22 HJ41
                clear hJ38
                refine c_seq ?_
                intro K43 hK43
                refine c_region ?_
                refine L_val (v := .pointer x3) (y_move (ev_tv rfl ((hag40 5 rfl).trans ((hag33 5 rfl).trans ((hag18 5 rfl).trans rfl))))) ?_
                refine L_call (y_call Try.call17 (map_ev1 (ev_tv rfl rfl)) ev_f) (Calls.mono H ?_)
                clear H
                rintro _ w24 ⟨x23, rfl, H⟩
                refine ⟨_, rfl, ?_⟩
                refine l_nil ?_
                refine then_norm ?_
                refine hK43 _ _ ?_
                clear hK43
                refine c_seq ?_
                intro K44 hK44
                refine c_seq ?_
                intro K45 hK45
                refine c_region ?_
                refine L_val (v := .pointer x10) (y_move (ev_tv rfl ((hag40 7 rfl).trans ((hag33 7 rfl).trans ((hag18 7 rfl).trans rfl))))) ?_
                refine L_call (y_call Try.call15 (map_ev1 (ev_tv rfl rfl)) ev_f) (Calls.mono H ?_)
                clear H
                rintro _ w27 ⟨x26, x26l, x26c, rfl, H⟩
                refine ⟨_, rfl, ?_⟩
                refine L_val (v := .int .i64 ((x26l : Nat) : Int)) (y_len Try.underlying43 rfl (map_ev1 (ev_tv rfl rfl))) ?_
                refine L_val (v := .bool (!decide ((((x26l : Nat) : Int) : Int) = 0))) (y_ine (ev_tv rfl rfl) ev_c) ?_
                refine L_val (v := .bool (!decide ((((x26l : Nat) : Int) : Int) = 0))) (y_move (ev_tv rfl rfl)) ?_
                rcases (Decidable.em ((((x26l : Nat) : Int) : Int) = 0)).symm with hb46 | hb46
                · replace H := H.1 hb46
                  have hq47 : Value.bool (!decide ((((x26l : Nat) : Int) : Int) = 0)) = Value.bool true := congrArg Value.bool (ndec_t hb46)
                  refine G_not (b' := true) (dj := 160) rfl rfl hq47 rfl ?_
                  refine G_not (b' := true) (dj := 160) rfl rfl hq47 rfl ?_
                  refine G_not (b' := true) (dj := 160) rfl rfl hq47 rfl ?_
                  refine L_val (v := .bool true) (y_pick_t (ev_tv rfl hq47) ev_c) ?_
                  refine l_nil ?_
                  refine then_norm ?_
                  refine hK45 _ _ ?_
                  clear hK45
                  refine cond_t (ev_tv rfl rfl) ?_
                  refine c_seq ?_
                  intro K48 hK48
                  refine c_region ?_
                  refine L_val (v := .bool false) (y_assign ev_c) ?_
                  refine l_nil ?_
                  refine then_norm ?_
                  refine hK48 _ _ ?_
                  clear hK48
                  refine c_ret ?_
                  refine then_ret ?_
                  exact body_1 rfl (ev_tv rfl rfl) H
                · replace H := H.2 hb46
                  have hq47 : Value.bool (!decide ((((x26l : Nat) : Int) : Int) = 0)) = Value.bool false := congrArg Value.bool (ndec_f hb46)
                  refine G_val (dj := 160) rfl rfl hq47 (v := .pointer x3) (y_move (ev_tv rfl ((hag40 5 rfl).trans ((hag33 5 rfl).trans ((hag18 5 rfl).trans rfl))))) ?_
                  refine G_call (dj := 160) rfl rfl hq47 (y_call Try.call18 (map_ev2 (ev_tv rfl rfl) ev_c) ev_f) (Calls.mono H ?_)
                  clear H
                  rintro _ w30 ⟨x29, rfl, H⟩
                  refine ⟨_, rfl, ?_⟩
                  refine G_val (dj := 160) rfl rfl hq47 (v := .bool (!decide ((x29 : Int) = 0))) (y_ine (ev_tv rfl rfl) ev_c) ?_
                  refine L_val (v := .bool (!decide ((x29 : Int) = 0))) (y_pick_f (ev_tv rfl hq47) (ev_tv rfl rfl)) ?_
                  refine l_nil ?_
                  refine then_norm ?_
                  refine hK45 _ _ ?_
                  clear hK45
                  rcases (Decidable.em ((x29 : Int) = 0)).symm with hb49 | hb49
                  · replace H := H.1 hb49
                    have hq50 : Value.bool (!decide ((x29 : Int) = 0)) = Value.bool true := congrArg Value.bool (ndec_t hb49)
                    refine cond_t (ev_tv rfl hq50) ?_
                    refine c_seq ?_
                    intro K51 hK51
                    refine c_region ?_
                    refine L_val (v := .bool false) (y_assign ev_c) ?_
                    refine l_nil ?_
                    refine then_norm ?_
                    refine hK51 _ _ ?_
                    clear hK51
                    refine c_ret ?_
                    refine then_ret ?_
                    exact body_1 rfl (ev_tv rfl rfl) H
                  · replace H := H.2 hb49
                    have hq50 : Value.bool (!decide ((x29 : Int) = 0)) = Value.bool false := congrArg Value.bool (ndec_f hb49)
                    refine cond_f (ev_tv rfl hq50) ?_
                    refine c_skip ?_
                    refine then_norm ?_
                    refine hK44 _ _ ?_
                    clear hK44
                    refine c_seq ?_
                    intro K52 hK52
                    refine c_seq ?_
                    intro K53 hK53
                    refine c_region ?_
                    refine L_val (v := .int .i64 0) (y_assign ev_c) ?_
                    refine l_nil ?_
                    refine then_norm ?_
                    refine hK53 _ _ ?_
                    clear hK53
                    refine c_block ?_
                    obtain ⟨I54, ⟨m58, HI59⟩, H⟩ := H
                    refine loop_fr ([(4, 4), (19, 21), (165, 185)]) (fun m ff ww => ∃ (v32 : Int), ff 19 = (.int .i64 v32 : Value) ∧ I54 m v32 ww) m58 ⟨0, rfl, HI59⟩ ?_
                    rintro m33 f55 w34 hag56 ⟨v32, hs60, HI57⟩
                    replace H := H m33 v32 w34 HI57
                    refine c_seq ?_
                    intro K61 hK61
                    refine c_seq ?_
                    intro K62 hK62
                    refine c_region ?_
                    refine L_val (v := .int .i64 v32) (y_move (ev_tv rfl hs60)) ?_
                    refine L_val (v := .bool (decide ((v32 : Int) < 12))) (y_lss (ev_tv rfl rfl) ev_c) ?_
                    refine l_nil ?_
                    refine then_norm ?_
                    refine hK62 _ _ ?_
                    clear hK62
                    rcases (Decidable.em ((v32 : Int) < 12)) with hb63 | hb63
                    · replace H := H.1 hb63
                      have hq64 : Value.bool (decide ((v32 : Int) < 12)) = Value.bool true := congrArg Value.bool (decide_eq_true hb63)
                      refine cond_t (ev_tv rfl hq64) ?_
                      refine c_skip ?_
                      refine then_norm ?_
                      refine hK61 _ _ ?_
                      clear hK61
                      refine c_seq ?_
                      intro K65 hK65
                      refine c_block ?_
                      refine c_seq ?_
                      intro K66 hK66
                      refine c_region ?_
                      refine L_val (v := .pointer x3) (y_move (ev_tv rfl ((hag56 5 rfl).trans ((hag40 5 rfl).trans ((hag33 5 rfl).trans ((hag18 5 rfl).trans rfl)))))) ?_
                      refine L_val (v := .int .i64 v32) (y_move (ev_tv rfl hs60)) ?_
                      refine L_call (y_call Try.call19 (map_ev2 (ev_tv rfl rfl) (ev_tv rfl rfl)) ev_f) (Calls.mono H ?_)
                      clear H
                      rintro _ w37 ⟨x35, x35l, x35c, x36, rfl, H⟩
                      refine ⟨_, rfl, ?_⟩
                      refine L_val (v := .tuple #[.slice x35 x35l x35c, .int .i64 x36]) (y_move (ev_tv rfl rfl)) ?_
                      refine L_val (v := .slice x35 x35l x35c) (y_extract (ev_tv rfl rfl) rfl) ?_
                      refine L_val (v := .int .i64 x36) (y_extract (ev_tv rfl rfl) rfl) ?_
                      refine L_val (v := .slice x35 x35l x35c) (y_assign (ev_tv rfl rfl)) ?_
                      refine L_val (v := .int .i64 x36) (y_assign (ev_tv rfl rfl)) ?_
                      refine l_nil ?_
                      refine then_norm ?_
                      refine hK66 _ _ ?_
                      clear hK66
                      refine c_seq ?_
                      intro K67 hK67
                      refine c_region ?_
                      refine L_val (v := .int .i64 x36) (y_move (ev_tv rfl rfl)) ?_
                      refine L_val (v := .bool (!decide ((x36 : Int) = 0))) (y_ine (ev_tv rfl rfl) ev_c) ?_
                      refine L_val (v := .bool (!decide ((x36 : Int) = 0))) (y_move (ev_tv rfl rfl)) ?_
                      rcases (Decidable.em ((x36 : Int) = 0)).symm with hb68 | hb68
                      · replace H := H.1 hb68
                        have hq69 : Value.bool (!decide ((x36 : Int) = 0)) = Value.bool true := congrArg Value.bool (ndec_t hb68)
                        refine G_not (b' := true) (dj := 177) rfl rfl hq69 rfl ?_
                        refine G_not (b' := true) (dj := 177) rfl rfl hq69 rfl ?_
                        refine G_not (b' := true) (dj := 177) rfl rfl hq69 rfl ?_
                        refine G_not (b' := true) (dj := 177) rfl rfl hq69 rfl ?_
                        refine G_not (b' := true) (dj := 177) rfl rfl hq69 rfl ?_
                        refine G_not (b' := true) (dj := 177) rfl rfl hq69 rfl ?_
                        refine G_not (b' := true) (dj := 177) rfl rfl hq69 rfl ?_
                        refine L_val (v := .bool true) (y_pick_t (ev_tv rfl hq69) ev_c) ?_
                        refine l_nil ?_
                        refine then_norm ?_
                        refine hK67 _ _ ?_
                        clear hK67
                        refine cond_t (ev_tv rfl rfl) ?_
                        refine c_seq ?_
                        intro K70 hK70
                        refine c_region ?_
                        refine L_val (v := .bool false) (y_assign ev_c) ?_
                        refine l_nil ?_
                        refine then_norm ?_
                        refine hK70 _ _ ?_
                        clear hK70
                        refine c_ret ?_
                        refine block_ret ?_
                        refine then_ret ?_
                        refine then_ret ?_
                        refine block_ret ?_
                        refine then_ret ?_
                        exact body_1 rfl (ev_tv rfl rfl) H
                      · replace H := H.2 hb68
                        have hq69 : Value.bool (!decide ((x36 : Int) = 0)) = Value.bool false := congrArg Value.bool (ndec_f hb68)
                        refine G_val (dj := 177) rfl rfl hq69 (v := .slice x35 x35l x35c) (y_move (ev_tv rfl rfl)) ?_
                        refine G_val (dj := 177) rfl rfl hq69 (v := .int .i64 v32) (y_move (ev_tv rfl hs60)) ?_
                        obtain ⟨hi71, hi72, H⟩ := H
                        refine G_val (dj := 177) rfl rfl hq69 (v := .pointer (some ⟨b16, 0 + (v32 : Int).toNat * 1, none⟩)) (y_ixA Try.underlying46 Try.type5 rfl (ev_tv rfl ((hag56 9 rfl).trans ((hag40 9 rfl).trans ((hag33 9 rfl).trans rfl)))) (ev_tv rfl rfl) hi71 hi72) ?_
                        obtain ⟨x39, hc73, H⟩ := H
                        refine G_val (dj := 177) rfl rfl hq69 (v := .int .u8 x39) (y_load Try.underlying5 rfl (ev_tv rfl rfl) hc73) ?_
                        refine G_call (dj := 177) rfl rfl hq69 (y_call Try.call12 (map_ev2 (ev_tv rfl rfl) ev_c) ev_f) (Calls.mono H ?_)
                        clear H
                        rintro _ w41 ⟨x40, x40l, x40c, rfl, H⟩
                        refine ⟨_, rfl, ?_⟩
                        refine G_call (dj := 177) rfl rfl hq69 (y_call Try.call10 (map_ev2 (ev_tv rfl rfl) (ev_tv rfl rfl)) ev_f) (Calls.mono H ?_)
                        clear H
                        rintro _ w44 ⟨x43, rfl, H⟩
                        refine ⟨_, rfl, ?_⟩
                        rcases Bool.eq_false_or_eq_true x43 with hb74 | hb74
                        · replace H := H.1 hb74
                          have hq75 : Value.bool (x43) = Value.bool true := congrArg Value.bool hb74
                          refine G_val (dj := 177) rfl rfl hq69 (v := .bool false) (y_not_t (ev_tv rfl hq75)) ?_
                          refine L_val (v := .bool false) (y_pick_f (ev_tv rfl hq69) (ev_tv rfl rfl)) ?_
                          refine l_nil ?_
                          refine then_norm ?_
                          refine hK67 _ _ ?_
                          clear hK67
                          refine cond_f (ev_tv rfl rfl) ?_
                          refine c_skip ?_
                          refine block_norm ?_
                          refine then_norm ?_
                          refine hK65 _ _ ?_
                          clear hK65
                          refine c_region ?_
                          refine L_val (v := .int .i64 v32) (y_move (ev_tv rfl hs60)) ?_
                          obtain ⟨r46, hr76⟩ : ∃ r46 : Int, r46 = IntKind.wrap .i64 (v32 + 1) := ⟨_, rfl⟩
                          replace H := H r46 hr76
                          refine L_val (v := .int .i64 r46) (y_add (ev_tv rfl rfl) ev_c hr76) ?_
                          refine L_val (v := .int .i64 r46) (y_assign (ev_tv rfl rfl)) ?_
                          refine l_nil ?_
                          refine then_norm ?_
                          obtain ⟨m47, hm77, H⟩ := H
                          exact ⟨_, rfl, (by repeat (first | exact agree_refl | exact hag56 | exact hag40 | exact hag33 | exact hag18 | refine agree_upd rfl ?_ | refine agree_via hag56 rfl ?_ | refine agree_via hag40 rfl ?_ | refine agree_via hag33 rfl ?_ | refine agree_via hag18 rfl ?_)), m47, hm77, _, rfl, H⟩
                        · replace H := H.2 hb74
                          have hq75 : Value.bool (x43) = Value.bool false := congrArg Value.bool hb74
                          refine G_val (dj := 177) rfl rfl hq69 (v := .bool true) (y_not_f (ev_tv rfl hq75)) ?_
                          refine L_val (v := .bool true) (y_pick_f (ev_tv rfl hq69) (ev_tv rfl rfl)) ?_
                          refine l_nil ?_
                          refine then_norm ?_
                          refine hK67 _ _ ?_
                          clear hK67
                          refine cond_t (ev_tv rfl rfl) ?_
                          refine c_seq ?_
                          intro K78 hK78
                          refine c_region ?_
                          refine L_val (v := .bool false) (y_assign ev_c) ?_
                          refine l_nil ?_
                          refine then_norm ?_
                          refine hK78 _ _ ?_
                          clear hK78
                          refine c_ret ?_
                          refine block_ret ?_
                          refine then_ret ?_
                          refine then_ret ?_
                          refine block_ret ?_
                          refine then_ret ?_
                          exact body_1 rfl (ev_tv rfl rfl) H
                    · replace H := H.2 hb63
                      have hq64 : Value.bool (decide ((v32 : Int) < 12)) = Value.bool false := congrArg Value.bool (decide_eq_false hb63)
                      refine cond_f (ev_tv rfl hq64) ?_
                      refine c_exit ?_
                      refine then_exit ?_
                      refine then_exit ?_
                      refine block_hit ?_
                      refine then_norm ?_
                      refine hK52 _ _ ?_
                      clear hK52
                      refine c_seq ?_
                      intro K79 hK79
                      refine c_region ?_
                      refine L_val (v := .bool true) (y_assign ev_c) ?_
                      refine l_nil ?_
                      refine then_norm ?_
                      refine hK79 _ _ ?_
                      clear hK79
                      refine c_ret ?_
                      exact body_1 rfl (ev_tv rfl rfl) H
      · replace H := H.2 hb11
        have hq12 : Value.bool (x7) = Value.bool false := congrArg Value.bool hb11
        refine G_val (dj := 32) rfl rfl hq9 (v := .bool true) (y_not_f (ev_tv rfl hq12)) ?_
        refine L_val (v := .bool true) (y_pick_f (ev_tv rfl hq9) (ev_tv rfl rfl)) ?_
        refine l_nil ?_
        refine then_norm ?_
        refine hK4 _ _ ?_
        clear hK4
        refine cond_t (ev_tv rfl rfl) ?_
        refine c_seq ?_
        intro K203 hK203
        refine c_region ?_
        refine L_val (v := .bool false) (y_assign ev_c) ?_
        refine l_nil ?_
        refine then_norm ?_
        refine hK203 _ _ ?_
        clear hK203
        refine c_ret ?_
        refine then_ret ?_
        exact body_1 rfl (ev_tv rfl rfl) H

/-- parapet/disk.New -/
def Vc6 (a_count1 : Int) (w : World) (R : Ending → World → Prop) : Prop :=
  ((((a_count1 : Int) < 1) → R (.returned (.tuple #[.pointer none, .int .i64 1])) w) ∧ ((¬ ((a_count1 : Int) < 1)) → ((((4096 : Int) < a_count1) → R (.returned (.tuple #[.pointer none, .int .i64 1])) w) ∧ ((¬ ((4096 : Int) < a_count1)) → (∀ r2 : Int, r2 = IntKind.wrap .i64 (a_count1 * 512) → (∃ x4 : Option Addr, ∃ x4l : Nat, ∃ x4c : Nat, ∃ w3 : World, (Instr.makeSlice 33 (.int .i64 r2) (.int .i64 r2)).run Try.prog w = .ok (.slice x4 x4l x4c) w3 ∧ (∀ (b5 : Nat) (w6 : World), b5 = World.heapSize w3 → w6 = World.alloc w3 (.map #[] 0) → (∀ (b7 : Nat) (w8 : World), b7 = World.heapSize w6 → w8 = World.alloc w6 (.cells #[.slice x4 x4l x4c, .slice none 0 0, .map (some b5), .bool false, .int .i64 0, .int .i64 0, .int .i64 0, .int .i64 0] 51) → R (.returned (.tuple #[.pointer (some ⟨b7, 0, none⟩), .int .i64 0])) w8))))))))

theorem vc6 {a_count1 : Int} {w : World} {R : Ending → World → Prop} (H : Vc6 a_count1 w R) : Calls Try.prog 6 #[.int .i64 a_count1] w R := by
  unfold Vc6 at H
  refine calls_start [.int .i64 a_count1] Try.func6 rfl Try.ntmps6 rfl ?_
  refine c_seq ?_
  intro K1 hK1
  refine c_region ?_
  refine L_val (v := .pointer none) (y_assign ev_c) ?_
  refine L_val (v := .int .i64 0) (y_assign ev_c) ?_
  refine l_nil ?_
  refine then_norm ?_
  refine hK1 _ _ ?_
  clear hK1
  refine c_seq ?_
  intro K2 hK2
  refine c_seq ?_
  intro K3 hK3
  refine c_region ?_
  refine L_val (v := .int .i64 a_count1) (y_move (ev_tv rfl rfl)) ?_
  refine L_val (v := .bool (decide ((a_count1 : Int) < 1))) (y_lss (ev_tv rfl rfl) ev_c) ?_
  refine L_val (v := .bool (decide ((a_count1 : Int) < 1))) (y_move (ev_tv rfl rfl)) ?_
  rcases (Decidable.em ((a_count1 : Int) < 1)) with hb4 | hb4
  · replace H := H.1 hb4
    have hq5 : Value.bool (decide ((a_count1 : Int) < 1)) = Value.bool true := congrArg Value.bool (decide_eq_true hb4)
    refine G_not (b' := true) (dj := 6) rfl rfl hq5 rfl ?_
    refine G_not (b' := true) (dj := 6) rfl rfl hq5 rfl ?_
    refine L_val (v := .bool true) (y_pick_t (ev_tv rfl hq5) ev_c) ?_
    refine l_nil ?_
    refine then_norm ?_
    refine hK3 _ _ ?_
    clear hK3
    refine cond_t (ev_tv rfl rfl) ?_
    refine c_seq ?_
    intro K6 hK6
    refine c_region ?_
    refine L_val (v := .pointer none) (y_assign ev_c) ?_
    refine L_val (v := .int .i64 1) (y_assign ev_c) ?_
    refine l_nil ?_
    refine then_norm ?_
    refine hK6 _ _ ?_
    clear hK6
    refine c_ret ?_
    refine then_ret ?_
    exact body_2 rfl (ev_tv rfl rfl) (ev_tv rfl rfl) H
  · replace H := H.2 hb4
    have hq5 : Value.bool (decide ((a_count1 : Int) < 1)) = Value.bool false := congrArg Value.bool (decide_eq_false hb4)
    refine G_val (dj := 6) rfl rfl hq5 (v := .int .i64 a_count1) (y_move (ev_tv rfl rfl)) ?_
    refine G_val (dj := 6) rfl rfl hq5 (v := .bool (decide ((4096 : Int) < a_count1))) (y_gtr (ev_tv rfl rfl) ev_c) ?_
    refine L_val (v := .bool (decide ((4096 : Int) < a_count1))) (y_pick_f (ev_tv rfl hq5) (ev_tv rfl rfl)) ?_
    refine l_nil ?_
    refine then_norm ?_
    refine hK3 _ _ ?_
    clear hK3
    rcases (Decidable.em ((4096 : Int) < a_count1)) with hb7 | hb7
    · replace H := H.1 hb7
      have hq8 : Value.bool (decide ((4096 : Int) < a_count1)) = Value.bool true := congrArg Value.bool (decide_eq_true hb7)
      refine cond_t (ev_tv rfl hq8) ?_
      refine c_seq ?_
      intro K9 hK9
      refine c_region ?_
      refine L_val (v := .pointer none) (y_assign ev_c) ?_
      refine L_val (v := .int .i64 1) (y_assign ev_c) ?_
      refine l_nil ?_
      refine then_norm ?_
      refine hK9 _ _ ?_
      clear hK9
      refine c_ret ?_
      refine then_ret ?_
      exact body_2 rfl (ev_tv rfl rfl) (ev_tv rfl rfl) H
    · replace H := H.2 hb7
      have hq8 : Value.bool (decide ((4096 : Int) < a_count1)) = Value.bool false := congrArg Value.bool (decide_eq_false hb7)
      refine cond_f (ev_tv rfl hq8) ?_
      refine c_skip ?_
      refine then_norm ?_
      refine hK2 _ _ ?_
      clear hK2
      refine c_seq ?_
      intro K10 hK10
      refine c_region ?_
      refine L_val (v := .int .i64 a_count1) (y_move (ev_tv rfl rfl)) ?_
      obtain ⟨r2, hr11⟩ : ∃ r2 : Int, r2 = IntKind.wrap .i64 (a_count1 * 512) := ⟨_, rfl⟩
      replace H := H r2 hr11
      refine L_val (v := .int .i64 r2) (y_mul (ev_tv rfl rfl) ev_c hr11) ?_
      obtain ⟨x4, x4l, x4c, w3, hc12, H⟩ := H
      refine L_val (v := .slice x4 x4l x4c) (y_makeSlice (ev_tv rfl rfl) (ev_tv rfl rfl) hc12) ?_
      obtain ⟨b5, hb13⟩ : ∃ b5 : Nat, b5 = World.heapSize w3 := ⟨_, rfl⟩
      obtain ⟨w6, hw14⟩ : ∃ w6 : World, w6 = World.alloc w3 (.map #[] 0) := ⟨_, rfl⟩
      replace H := H b5 w6 hb13 hw14
      refine L_val (v := .map (some b5)) (y_makeMap hb13 hw14) ?_
      refine L_val (v := .agg #[.slice x4 x4l x4c, .slice none 0 0, .map (some b5), .bool false, .int .i64 0, .int .i64 0, .int .i64 0, .int .i64 0]) (y_build (parts_ev2 (ev_tv rfl rfl) (ev_tv rfl rfl)) (by kernel_rfl)) ?_
      obtain ⟨b7, hb15⟩ : ∃ b7 : Nat, b7 = World.heapSize w6 := ⟨_, rfl⟩
      obtain ⟨w8, hw16⟩ : ∃ w8 : World, w8 = World.alloc w6 (.cells #[.slice x4 x4l x4c, .slice none 0 0, .map (some b5), .bool false, .int .i64 0, .int .i64 0, .int .i64 0, .int .i64 0] 51) := ⟨_, rfl⟩
      replace H := H b7 w8 hb15 hw16
      refine L_val (v := .pointer (some ⟨b7, 0, none⟩)) (y_box (ev_tv rfl rfl) rfl hb15 hw16) ?_
      refine L_val (v := .pointer (some ⟨b7, 0, none⟩)) (y_assign (ev_tv rfl rfl)) ?_
      refine L_val (v := .int .i64 0) (y_assign ev_c) ?_
      refine l_nil ?_
      refine then_norm ?_
      refine hK10 _ _ ?_
      clear hK10
      refine c_ret ?_
      exact body_2 rfl (ev_tv rfl rfl) (ev_tv rfl rfl) H

/-- parapet/parapetlaw15.lives -/
def Vc7  (w : World) (R : Ending → World → Prop) : Prop :=
  (Calls Try.prog 6 #[.int .i64 9] w fun e w3 => ∃ x1 : Option Addr, ∃ x2 : Int, e = .returned (.tuple #[.pointer x1, .int .i64 x2]) ∧ (Calls Try.prog 8 #[.pointer x1, .int .i64 2] w3 fun e w7 => ∃ x5 : Option Addr, ∃ x6 : Int, e = .returned (.tuple #[.pointer x5, .int .i64 x6]) ∧ (((¬ ((x6 : Int) = 0)) → R (.returned (.bool false)) w7) ∧ (((x6 : Int) = 0) → (((x5 = none) → R (.returned (.bool false)) w7) ∧ ((x5 ≠ none) → (Calls Try.prog 12 #[.int .u8 7, .int .i64 0] w7 fun e w10 => ∃ x9 : Option Addr, ∃ x9l : Nat, ∃ x9c : Nat, e = .returned (.slice x9 x9l x9c) ∧ (Calls Try.prog 11 #[.pointer x5, .int .i64 1, .slice x9 x9l x9c] w10 fun e w13 => ∃ x12 : Int, e = .returned (.int .i64 x12) ∧ (((¬ ((x12 : Int) = 0)) → R (.returned (.bool false)) w13) ∧ (((x12 : Int) = 0) → (Calls Try.prog 9 #[.pointer x5, .int .i64 1] w13 fun e w17 => ∃ x15 : Option Addr, ∃ x15l : Nat, ∃ x15c : Nat, ∃ x16 : Int, e = .returned (.tuple #[.slice x15 x15l x15c, .int .i64 x16]) ∧ (Calls Try.prog 13 #[.pointer x5, .int .i64 1] w17 fun e w21 => ∃ x19 : Bool, ∃ x20 : Int, e = .returned (.tuple #[.bool x19, .int .i64 x20]) ∧ ((((x16 : Int) = 0) → ((((((x15l : Nat) : Int) : Int) = 512) → (∃ (b23 o24 : Nat), x15 = some ⟨b23, o24, none⟩ ∧ ((0 : Int) ≤ 9 ∧ 9 < ((x15l : Nat) : Int) ∧ (∃ x25 : Int, World.cell? w21 ⟨b23, o24 + (9 : Int).toNat, none⟩ = some (.int .u8 x25) ∧ ((((x25 : Int) = 7) → (((x19 = true) → ((((x20 : Int) = 0) → (Calls Try.prog 20 #[.pointer x1] w21 fun e w27 => ∃ x26 : Option Addr, ∃ x26l : Nat, ∃ x26c : Nat, e = .returned (.slice x26 x26l x26c) ∧ ((((((x26l : Nat) : Int) : Int) = 1) → (Calls Try.prog 16 #[.pointer x5] w27 fun e w30 => ∃ x29 : Option Addr, ∃ x29l : Nat, ∃ x29c : Nat, e = .returned (.slice x29 x29l x29c) ∧ R (.returned (.bool (decide ((((x29l : Nat) : Int) : Int) = 1)))) w30)) ∧ ((¬ ((((x26l : Nat) : Int) : Int) = 1)) → R (.returned (.bool false)) w27)))) ∧ ((¬ ((x20 : Int) = 0)) → R (.returned (.bool false)) w21))) ∧ ((x19 = false) → R (.returned (.bool false)) w21))) ∧ ((¬ ((x25 : Int) = 7)) → R (.returned (.bool false)) w21)))))) ∧ ((¬ ((((x15l : Nat) : Int) : Int) = 512)) → R (.returned (.bool false)) w21))) ∧ ((¬ ((x16 : Int) = 0)) → R (.returned (.bool false)) w21))))))))))))))

theorem vc7  {w : World} {R : Ending → World → Prop} (H : Vc7  w R) : Calls Try.prog 7 #[] w R := by
  unfold Vc7 at H
  refine calls_start [] Try.func7 rfl Try.ntmps7 rfl ?_
  refine c_seq ?_
  intro K1 hK1
  refine c_region ?_
  refine L_val (v := .bool false) (y_assign ev_c) ?_
  refine l_nil ?_
  refine then_norm ?_
  refine hK1 _ _ ?_
  clear hK1
  refine c_seq ?_
  intro K2 hK2
  refine c_region ?_
  refine L_call (y_call Try.call6 (map_ev1 ev_c) ev_f) (Calls.mono H ?_)
  clear H
  rintro _ w3 ⟨x1, x2, rfl, H⟩
  refine ⟨_, rfl, ?_⟩
  refine L_val (v := .tuple #[.pointer x1, .int .i64 x2]) (y_move (ev_tv rfl rfl)) ?_
  refine L_val (v := .pointer x1) (y_extract (ev_tv rfl rfl) rfl) ?_
  refine L_val (v := .int .i64 x2) (y_extract (ev_tv rfl rfl) rfl) ?_
  refine L_val (v := .pointer x1) (y_assign (ev_tv rfl rfl)) ?_
  refine L_val (v := .int .i64 x2) (y_assign (ev_tv rfl rfl)) ?_
  refine l_nil ?_
  refine then_norm ?_
  refine hK2 _ _ ?_
  clear hK2
  refine c_seq ?_
  intro K3 hK3
  refine c_region ?_
  refine L_val (v := .pointer x1) (y_move (ev_tv rfl rfl)) ?_
  refine L_call (y_call Try.call8 (map_ev2 (ev_tv rfl rfl) ev_c) ev_f) (Calls.mono H ?_)
  clear H
  rintro _ w7 ⟨x5, x6, rfl, H⟩
  refine ⟨_, rfl, ?_⟩
  refine L_val (v := .tuple #[.pointer x5, .int .i64 x6]) (y_move (ev_tv rfl rfl)) ?_
  refine L_val (v := .pointer x5) (y_extract (ev_tv rfl rfl) rfl) ?_
  refine L_val (v := .int .i64 x6) (y_extract (ev_tv rfl rfl) rfl) ?_
  refine L_val (v := .pointer x5) (y_assign (ev_tv rfl rfl)) ?_
  refine L_val (v := .int .i64 x6) (y_assign (ev_tv rfl rfl)) ?_
  refine l_nil ?_
  refine then_norm ?_
  refine hK3 _ _ ?_
  clear hK3
  refine c_seq ?_
  intro K4 hK4
  refine c_seq ?_
  intro K5 hK5
  refine c_region ?_
  refine L_val (v := .int .i64 x6) (y_move (ev_tv rfl rfl)) ?_
  refine L_val (v := .bool (!decide ((x6 : Int) = 0))) (y_ine (ev_tv rfl rfl) ev_c) ?_
  refine L_val (v := .bool (!decide ((x6 : Int) = 0))) (y_move (ev_tv rfl rfl)) ?_
  rcases (Decidable.em ((x6 : Int) = 0)).symm with hb6 | hb6
  · replace H := H.1 hb6
    have hq7 : Value.bool (!decide ((x6 : Int) = 0)) = Value.bool true := congrArg Value.bool (ndec_t hb6)
    refine G_not (b' := true) (dj := 19) rfl rfl hq7 rfl ?_
    refine G_not (b' := true) (dj := 19) rfl rfl hq7 rfl ?_
    refine L_val (v := .bool true) (y_pick_t (ev_tv rfl hq7) ev_c) ?_
    refine L_val (v := .bool true) (y_move (ev_tv rfl rfl)) ?_
    refine G_not (b' := true) (dj := 23) rfl rfl rfl rfl ?_
    refine G_not (b' := true) (dj := 23) rfl rfl rfl rfl ?_
    refine G_not (b' := true) (dj := 23) rfl rfl rfl rfl ?_
    refine G_not (b' := true) (dj := 23) rfl rfl rfl rfl ?_
    refine L_val (v := .bool true) (y_pick_t (ev_tv rfl rfl) ev_c) ?_
    refine l_nil ?_
    refine then_norm ?_
    refine hK5 _ _ ?_
    clear hK5
    refine cond_t (ev_tv rfl rfl) ?_
    refine c_seq ?_
    intro K8 hK8
    refine c_region ?_
    refine L_val (v := .bool false) (y_assign ev_c) ?_
    refine l_nil ?_
    refine then_norm ?_
    refine hK8 _ _ ?_
    clear hK8
    refine c_ret ?_
    refine then_ret ?_
    exact body_1 rfl (ev_tv rfl rfl) H
  · replace H := H.2 hb6
    have hq7 : Value.bool (!decide ((x6 : Int) = 0)) = Value.bool false := congrArg Value.bool (ndec_f hb6)
    refine G_val (dj := 19) rfl rfl hq7 (v := .pointer x5) (y_move (ev_tv rfl rfl)) ?_
    refine G_val (dj := 19) rfl rfl hq7 (v := .bool (x5.isNone)) (y_peq Try.underlying28 (ev_tv rfl rfl) ev_c) ?_
    refine L_val (v := .bool (x5.isNone)) (y_pick_f (ev_tv rfl hq7) (ev_tv rfl rfl)) ?_
    refine L_val (v := .bool (x5.isNone)) (y_move (ev_tv rfl rfl)) ?_
    rcases (Classical.em (x5 = none)) with hb9 | hb9
    · replace H := H.1 hb9
      have hq10 : Value.bool (x5.isNone) = Value.bool true := congrArg Value.bool (isn_t hb9)
      refine G_not (b' := true) (dj := 23) rfl rfl hq10 rfl ?_
      refine G_not (b' := true) (dj := 23) rfl rfl hq10 rfl ?_
      refine G_not (b' := true) (dj := 23) rfl rfl hq10 rfl ?_
      refine G_not (b' := true) (dj := 23) rfl rfl hq10 rfl ?_
      refine L_val (v := .bool true) (y_pick_t (ev_tv rfl hq10) ev_c) ?_
      refine l_nil ?_
      refine then_norm ?_
      refine hK5 _ _ ?_
      clear hK5
      refine cond_t (ev_tv rfl rfl) ?_
      refine c_seq ?_
      intro K11 hK11
      refine c_region ?_
      refine L_val (v := .bool false) (y_assign ev_c) ?_
      refine l_nil ?_
      refine then_norm ?_
      refine hK11 _ _ ?_
      clear hK11
      refine c_ret ?_
      refine then_ret ?_
      exact body_1 rfl (ev_tv rfl rfl) H
    · replace H := H.2 hb9
      have hq10 : Value.bool (x5.isNone) = Value.bool false := congrArg Value.bool (isn_f hb9)
      refine G_val (dj := 23) rfl rfl hq10 (v := .pointer x5) (y_move (ev_tv rfl rfl)) ?_
      refine G_call (dj := 23) rfl rfl hq10 (y_call Try.call12 (map_ev2 ev_c ev_c) ev_f) (Calls.mono H ?_)
      clear H
      rintro _ w10 ⟨x9, x9l, x9c, rfl, H⟩
      refine ⟨_, rfl, ?_⟩
      refine G_call (dj := 23) rfl rfl hq10 (y_call Try.call11 (map_ev3 (ev_tv rfl rfl) ev_c (ev_tv rfl rfl)) ev_f) (Calls.mono H ?_)
      clear H
      rintro _ w13 ⟨x12, rfl, H⟩
      refine ⟨_, rfl, ?_⟩
      refine G_val (dj := 23) rfl rfl hq10 (v := .bool (!decide ((x12 : Int) = 0))) (y_ine (ev_tv rfl rfl) ev_c) ?_
      refine L_val (v := .bool (!decide ((x12 : Int) = 0))) (y_pick_f (ev_tv rfl hq10) (ev_tv rfl rfl)) ?_
      refine l_nil ?_
      refine then_norm ?_
      refine hK5 _ _ ?_
      clear hK5
      rcases (Decidable.em ((x12 : Int) = 0)).symm with hb12 | hb12
      · replace H := H.1 hb12
        have hq13 : Value.bool (!decide ((x12 : Int) = 0)) = Value.bool true := congrArg Value.bool (ndec_t hb12)
        refine cond_t (ev_tv rfl hq13) ?_
        refine c_seq ?_
        intro K14 hK14
        refine c_region ?_
        refine L_val (v := .bool false) (y_assign ev_c) ?_
        refine l_nil ?_
        refine then_norm ?_
        refine hK14 _ _ ?_
        clear hK14
        refine c_ret ?_
        refine then_ret ?_
        exact body_1 rfl (ev_tv rfl rfl) H
      · replace H := H.2 hb12
        have hq13 : Value.bool (!decide ((x12 : Int) = 0)) = Value.bool false := congrArg Value.bool (ndec_f hb12)
        refine cond_f (ev_tv rfl hq13) ?_
        refine c_skip ?_
        refine then_norm ?_
        refine hK4 _ _ ?_
        clear hK4
        refine c_seq ?_
        intro K15 hK15
        refine c_region ?_
        refine L_val (v := .pointer x5) (y_move (ev_tv rfl rfl)) ?_
        refine L_call (y_call Try.call9 (map_ev2 (ev_tv rfl rfl) ev_c) ev_f) (Calls.mono H ?_)
        clear H
        rintro _ w17 ⟨x15, x15l, x15c, x16, rfl, H⟩
        refine ⟨_, rfl, ?_⟩
        refine L_val (v := .tuple #[.slice x15 x15l x15c, .int .i64 x16]) (y_move (ev_tv rfl rfl)) ?_
        refine L_val (v := .slice x15 x15l x15c) (y_extract (ev_tv rfl rfl) rfl) ?_
        refine L_val (v := .int .i64 x16) (y_extract (ev_tv rfl rfl) rfl) ?_
        refine L_val (v := .slice x15 x15l x15c) (y_assign (ev_tv rfl rfl)) ?_
        refine L_val (v := .int .i64 x16) (y_assign (ev_tv rfl rfl)) ?_
        refine l_nil ?_
        refine then_norm ?_
        refine hK15 _ _ ?_
        clear hK15
        refine c_seq ?_
        intro K16 hK16
        refine c_region ?_
        refine L_val (v := .pointer x5) (y_move (ev_tv rfl rfl)) ?_
        refine L_call (y_call Try.call13 (map_ev2 (ev_tv rfl rfl) ev_c) ev_f) (Calls.mono H ?_)
        clear H
        rintro _ w21 ⟨x19, x20, rfl, H⟩
        refine ⟨_, rfl, ?_⟩
        refine L_val (v := .tuple #[.bool x19, .int .i64 x20]) (y_move (ev_tv rfl rfl)) ?_
        refine L_val (v := .bool x19) (y_extract (ev_tv rfl rfl) rfl) ?_
        refine L_val (v := .int .i64 x20) (y_extract (ev_tv rfl rfl) rfl) ?_
        refine L_val (v := .bool x19) (y_assign (ev_tv rfl rfl)) ?_
        refine L_val (v := .int .i64 x20) (y_assign (ev_tv rfl rfl)) ?_
        refine l_nil ?_
        refine then_norm ?_
        refine hK16 _ _ ?_
        clear hK16
        refine c_seq ?_
        intro K17 hK17
        refine c_region ?_
        refine L_val (v := .int .i64 x16) (y_move (ev_tv rfl rfl)) ?_
        refine L_val (v := .bool (decide ((x16 : Int) = 0))) (y_ieq (ev_tv rfl rfl) ev_c) ?_
        refine L_val (v := .bool (decide ((x16 : Int) = 0))) (y_move (ev_tv rfl rfl)) ?_
        rcases (Decidable.em ((x16 : Int) = 0)) with hb18 | hb18
        · replace H := H.1 hb18
          have hq19 : Value.bool (decide ((x16 : Int) = 0)) = Value.bool true := congrArg Value.bool (decide_eq_true hb18)
          refine G_val (dj := 41) rfl rfl hq19 (v := .slice x15 x15l x15c) (y_move (ev_tv rfl rfl)) ?_
          refine G_val (dj := 41) rfl rfl hq19 (v := .int .i64 ((x15l : Nat) : Int)) (y_len Try.underlying33 rfl (map_ev1 (ev_tv rfl rfl))) ?_
          refine G_val (dj := 41) rfl rfl hq19 (v := .bool (decide ((((x15l : Nat) : Int) : Int) = 512))) (y_ieq (ev_tv rfl rfl) ev_c) ?_
          refine L_val (v := .bool (decide ((((x15l : Nat) : Int) : Int) = 512))) (y_pick_t (ev_tv rfl hq19) (ev_tv rfl rfl)) ?_
          refine L_val (v := .bool (decide ((((x15l : Nat) : Int) : Int) = 512))) (y_move (ev_tv rfl rfl)) ?_
          rcases (Decidable.em ((((x15l : Nat) : Int) : Int) = 512)) with hb20 | hb20
          · replace H := H.1 hb20
            have hq21 : Value.bool (decide ((((x15l : Nat) : Int) : Int) = 512)) = Value.bool true := congrArg Value.bool (decide_eq_true hb20)
            refine G_val (dj := 46) rfl rfl hq21 (v := .slice x15 x15l x15c) (y_move (ev_tv rfl rfl)) ?_
            obtain ⟨b23, o24, rfl, H⟩ := H
            obtain ⟨hi22, hi23, H⟩ := H
            refine G_val (dj := 46) rfl rfl hq21 (v := .pointer (some ⟨b23, o24 + (9 : Int).toNat, none⟩)) (y_ix1 Try.underlying33 Try.type5 rfl (ev_tv rfl rfl) ev_c hi22 hi23) ?_
            obtain ⟨x25, hc24, H⟩ := H
            refine G_val (dj := 46) rfl rfl hq21 (v := .int .u8 x25) (y_load Try.underlying5 rfl (ev_tv rfl rfl) hc24) ?_
            refine G_val (dj := 46) rfl rfl hq21 (v := .bool (decide ((x25 : Int) = 7))) (y_ieq (ev_tv rfl rfl) ev_c) ?_
            refine L_val (v := .bool (decide ((x25 : Int) = 7))) (y_pick_t (ev_tv rfl hq21) (ev_tv rfl rfl)) ?_
            refine L_val (v := .bool (decide ((x25 : Int) = 7))) (y_move (ev_tv rfl rfl)) ?_
            rcases (Decidable.em ((x25 : Int) = 7)) with hb25 | hb25
            · replace H := H.1 hb25
              have hq26 : Value.bool (decide ((x25 : Int) = 7)) = Value.bool true := congrArg Value.bool (decide_eq_true hb25)
              refine G_val (dj := 52) rfl rfl hq26 (v := .bool x19) (y_move (ev_tv rfl rfl)) ?_
              refine L_val (v := .bool x19) (y_pick_t (ev_tv rfl hq26) (ev_tv rfl rfl)) ?_
              refine L_val (v := .bool x19) (y_move (ev_tv rfl rfl)) ?_
              rcases Bool.eq_false_or_eq_true x19 with hb27 | hb27
              · replace H := H.1 hb27
                have hq28 : Value.bool (x19) = Value.bool true := congrArg Value.bool hb27
                refine G_val (dj := 55) rfl rfl hq28 (v := .int .i64 x20) (y_move (ev_tv rfl rfl)) ?_
                refine G_val (dj := 55) rfl rfl hq28 (v := .bool (decide ((x20 : Int) = 0))) (y_ieq (ev_tv rfl rfl) ev_c) ?_
                refine L_val (v := .bool (decide ((x20 : Int) = 0))) (y_pick_t (ev_tv rfl hq28) (ev_tv rfl rfl)) ?_
                refine L_val (v := .bool (decide ((x20 : Int) = 0))) (y_move (ev_tv rfl rfl)) ?_
                rcases (Decidable.em ((x20 : Int) = 0)) with hb29 | hb29
                · replace H := H.1 hb29
                  have hq30 : Value.bool (decide ((x20 : Int) = 0)) = Value.bool true := congrArg Value.bool (decide_eq_true hb29)
                  refine G_val (dj := 59) rfl rfl hq30 (v := .pointer x1) (y_move (ev_tv rfl rfl)) ?_
                  refine G_call (dj := 59) rfl rfl hq30 (y_call Try.call20 (map_ev1 (ev_tv rfl rfl)) ev_f) (Calls.mono H ?_)
                  clear H
                  rintro _ w27 ⟨x26, x26l, x26c, rfl, H⟩
                  refine ⟨_, rfl, ?_⟩
                  refine G_val (dj := 59) rfl rfl hq30 (v := .int .i64 ((x26l : Nat) : Int)) (y_len Try.underlying43 rfl (map_ev1 (ev_tv rfl rfl))) ?_
                  refine G_val (dj := 59) rfl rfl hq30 (v := .bool (decide ((((x26l : Nat) : Int) : Int) = 1))) (y_ieq (ev_tv rfl rfl) ev_c) ?_
                  refine L_val (v := .bool (decide ((((x26l : Nat) : Int) : Int) = 1))) (y_pick_t (ev_tv rfl hq30) (ev_tv rfl rfl)) ?_
                  refine L_val (v := .bool (decide ((((x26l : Nat) : Int) : Int) = 1))) (y_move (ev_tv rfl rfl)) ?_
                  rcases (Decidable.em ((((x26l : Nat) : Int) : Int) = 1)) with hb31 | hb31
                  · replace H := H.1 hb31
                    have hq32 : Value.bool (decide ((((x26l : Nat) : Int) : Int) = 1)) = Value.bool true := congrArg Value.bool (decide_eq_true hb31)
                    refine G_val (dj := 65) rfl rfl hq32 (v := .pointer x5) (y_move (ev_tv rfl rfl)) ?_
                    refine G_call (dj := 65) rfl rfl hq32 (y_call Try.call16 (map_ev1 (ev_tv rfl rfl)) ev_f) (Calls.mono H ?_)
                    clear H
                    rintro _ w30 ⟨x29, x29l, x29c, rfl, H⟩
                    refine ⟨_, rfl, ?_⟩
                    refine G_val (dj := 65) rfl rfl hq32 (v := .int .i64 ((x29l : Nat) : Int)) (y_len Try.underlying43 rfl (map_ev1 (ev_tv rfl rfl))) ?_
                    refine G_val (dj := 65) rfl rfl hq32 (v := .bool (decide ((((x29l : Nat) : Int) : Int) = 1))) (y_ieq (ev_tv rfl rfl) ev_c) ?_
                    refine L_val (v := .bool (decide ((((x29l : Nat) : Int) : Int) = 1))) (y_pick_t (ev_tv rfl hq32) (ev_tv rfl rfl)) ?_
                    refine L_val (v := .bool (decide ((((x29l : Nat) : Int) : Int) = 1))) (y_assign (ev_tv rfl rfl)) ?_
                    refine l_nil ?_
                    refine then_norm ?_
                    refine hK17 _ _ ?_
                    clear hK17
                    refine c_ret ?_
                    exact body_1 rfl (ev_tv rfl rfl) H
                  · replace H := H.2 hb31
                    have hq32 : Value.bool (decide ((((x26l : Nat) : Int) : Int) = 1)) = Value.bool false := congrArg Value.bool (decide_eq_false hb31)
                    refine G_not (b' := false) (dj := 65) rfl rfl hq32 rfl ?_
                    refine G_not (b' := false) (dj := 65) rfl rfl hq32 rfl ?_
                    refine G_not (b' := false) (dj := 65) rfl rfl hq32 rfl ?_
                    refine G_not (b' := false) (dj := 65) rfl rfl hq32 rfl ?_
                    refine L_val (v := .bool false) (y_pick_f (ev_tv rfl hq32) ev_c) ?_
                    refine L_val (v := .bool false) (y_assign (ev_tv rfl rfl)) ?_
                    refine l_nil ?_
                    refine then_norm ?_
                    refine hK17 _ _ ?_
                    clear hK17
                    refine c_ret ?_
                    exact body_1 rfl (ev_tv rfl rfl) H
                · replace H := H.2 hb29
                  have hq30 : Value.bool (decide ((x20 : Int) = 0)) = Value.bool false := congrArg Value.bool (decide_eq_false hb29)
                  refine G_not (b' := false) (dj := 59) rfl rfl hq30 rfl ?_
                  refine G_not (b' := false) (dj := 59) rfl rfl hq30 rfl ?_
                  refine G_not (b' := false) (dj := 59) rfl rfl hq30 rfl ?_
                  refine G_not (b' := false) (dj := 59) rfl rfl hq30 rfl ?_
                  refine L_val (v := .bool false) (y_pick_f (ev_tv rfl hq30) ev_c) ?_
                  refine L_val (v := .bool false) (y_move (ev_tv rfl rfl)) ?_
                  refine G_not (b' := false) (dj := 65) rfl rfl rfl rfl ?_
                  refine G_not (b' := false) (dj := 65) rfl rfl rfl rfl ?_
                  refine G_not (b' := false) (dj := 65) rfl rfl rfl rfl ?_
                  refine G_not (b' := false) (dj := 65) rfl rfl rfl rfl ?_
                  refine L_val (v := .bool false) (y_pick_f (ev_tv rfl rfl) ev_c) ?_
                  refine L_val (v := .bool false) (y_assign (ev_tv rfl rfl)) ?_
                  refine l_nil ?_
                  refine then_norm ?_
                  refine hK17 _ _ ?_
                  clear hK17
                  refine c_ret ?_
                  exact body_1 rfl (ev_tv rfl rfl) H
              · replace H := H.2 hb27
                have hq28 : Value.bool (x19) = Value.bool false := congrArg Value.bool hb27
                refine G_not (b' := false) (dj := 55) rfl rfl hq28 rfl ?_
                refine G_not (b' := false) (dj := 55) rfl rfl hq28 rfl ?_
                refine L_val (v := .bool false) (y_pick_f (ev_tv rfl hq28) ev_c) ?_
                refine L_val (v := .bool false) (y_move (ev_tv rfl rfl)) ?_
                refine G_not (b' := false) (dj := 59) rfl rfl rfl rfl ?_
                refine G_not (b' := false) (dj := 59) rfl rfl rfl rfl ?_
                refine G_not (b' := false) (dj := 59) rfl rfl rfl rfl ?_
                refine G_not (b' := false) (dj := 59) rfl rfl rfl rfl ?_
                refine L_val (v := .bool false) (y_pick_f (ev_tv rfl rfl) ev_c) ?_
                refine L_val (v := .bool false) (y_move (ev_tv rfl rfl)) ?_
                refine G_not (b' := false) (dj := 65) rfl rfl rfl rfl ?_
                refine G_not (b' := false) (dj := 65) rfl rfl rfl rfl ?_
                refine G_not (b' := false) (dj := 65) rfl rfl rfl rfl ?_
                refine G_not (b' := false) (dj := 65) rfl rfl rfl rfl ?_
                refine L_val (v := .bool false) (y_pick_f (ev_tv rfl rfl) ev_c) ?_
                refine L_val (v := .bool false) (y_assign (ev_tv rfl rfl)) ?_
                refine l_nil ?_
                refine then_norm ?_
                refine hK17 _ _ ?_
                clear hK17
                refine c_ret ?_
                exact body_1 rfl (ev_tv rfl rfl) H
            · replace H := H.2 hb25
              have hq26 : Value.bool (decide ((x25 : Int) = 7)) = Value.bool false := congrArg Value.bool (decide_eq_false hb25)
              refine G_not (b' := false) (dj := 52) rfl rfl hq26 rfl ?_
              refine L_val (v := .bool false) (y_pick_f (ev_tv rfl hq26) ev_c) ?_
              refine L_val (v := .bool false) (y_move (ev_tv rfl rfl)) ?_
              refine G_not (b' := false) (dj := 55) rfl rfl rfl rfl ?_
              refine G_not (b' := false) (dj := 55) rfl rfl rfl rfl ?_
              refine L_val (v := .bool false) (y_pick_f (ev_tv rfl rfl) ev_c) ?_
              refine L_val (v := .bool false) (y_move (ev_tv rfl rfl)) ?_
              refine G_not (b' := false) (dj := 59) rfl rfl rfl rfl ?_
              refine G_not (b' := false) (dj := 59) rfl rfl rfl rfl ?_
              refine G_not (b' := false) (dj := 59) rfl rfl rfl rfl ?_
              refine G_not (b' := false) (dj := 59) rfl rfl rfl rfl ?_
              refine L_val (v := .bool false) (y_pick_f (ev_tv rfl rfl) ev_c) ?_
              refine L_val (v := .bool false) (y_move (ev_tv rfl rfl)) ?_
              refine G_not (b' := false) (dj := 65) rfl rfl rfl rfl ?_
              refine G_not (b' := false) (dj := 65) rfl rfl rfl rfl ?_
              refine G_not (b' := false) (dj := 65) rfl rfl rfl rfl ?_
              refine G_not (b' := false) (dj := 65) rfl rfl rfl rfl ?_
              refine L_val (v := .bool false) (y_pick_f (ev_tv rfl rfl) ev_c) ?_
              refine L_val (v := .bool false) (y_assign (ev_tv rfl rfl)) ?_
              refine l_nil ?_
              refine then_norm ?_
              refine hK17 _ _ ?_
              clear hK17
              refine c_ret ?_
              exact body_1 rfl (ev_tv rfl rfl) H
          · replace H := H.2 hb20
            have hq21 : Value.bool (decide ((((x15l : Nat) : Int) : Int) = 512)) = Value.bool false := congrArg Value.bool (decide_eq_false hb20)
            refine G_not (b' := false) (dj := 46) rfl rfl hq21 rfl ?_
            refine G_not (b' := false) (dj := 46) rfl rfl hq21 rfl ?_
            refine G_not (b' := false) (dj := 46) rfl rfl hq21 rfl ?_
            refine G_not (b' := false) (dj := 46) rfl rfl hq21 rfl ?_
            refine L_val (v := .bool false) (y_pick_f (ev_tv rfl hq21) ev_c) ?_
            refine L_val (v := .bool false) (y_move (ev_tv rfl rfl)) ?_
            refine G_not (b' := false) (dj := 52) rfl rfl rfl rfl ?_
            refine L_val (v := .bool false) (y_pick_f (ev_tv rfl rfl) ev_c) ?_
            refine L_val (v := .bool false) (y_move (ev_tv rfl rfl)) ?_
            refine G_not (b' := false) (dj := 55) rfl rfl rfl rfl ?_
            refine G_not (b' := false) (dj := 55) rfl rfl rfl rfl ?_
            refine L_val (v := .bool false) (y_pick_f (ev_tv rfl rfl) ev_c) ?_
            refine L_val (v := .bool false) (y_move (ev_tv rfl rfl)) ?_
            refine G_not (b' := false) (dj := 59) rfl rfl rfl rfl ?_
            refine G_not (b' := false) (dj := 59) rfl rfl rfl rfl ?_
            refine G_not (b' := false) (dj := 59) rfl rfl rfl rfl ?_
            refine G_not (b' := false) (dj := 59) rfl rfl rfl rfl ?_
            refine L_val (v := .bool false) (y_pick_f (ev_tv rfl rfl) ev_c) ?_
            refine L_val (v := .bool false) (y_move (ev_tv rfl rfl)) ?_
            refine G_not (b' := false) (dj := 65) rfl rfl rfl rfl ?_
            refine G_not (b' := false) (dj := 65) rfl rfl rfl rfl ?_
            refine G_not (b' := false) (dj := 65) rfl rfl rfl rfl ?_
            refine G_not (b' := false) (dj := 65) rfl rfl rfl rfl ?_
            refine L_val (v := .bool false) (y_pick_f (ev_tv rfl rfl) ev_c) ?_
            refine L_val (v := .bool false) (y_assign (ev_tv rfl rfl)) ?_
            refine l_nil ?_
            refine then_norm ?_
            refine hK17 _ _ ?_
            clear hK17
            refine c_ret ?_
            exact body_1 rfl (ev_tv rfl rfl) H
        · replace H := H.2 hb18
          have hq19 : Value.bool (decide ((x16 : Int) = 0)) = Value.bool false := congrArg Value.bool (decide_eq_false hb18)
          refine G_not (b' := false) (dj := 41) rfl rfl hq19 rfl ?_
          refine G_not (b' := false) (dj := 41) rfl rfl hq19 rfl ?_
          refine G_not (b' := false) (dj := 41) rfl rfl hq19 rfl ?_
          refine L_val (v := .bool false) (y_pick_f (ev_tv rfl hq19) ev_c) ?_
          refine L_val (v := .bool false) (y_move (ev_tv rfl rfl)) ?_
          refine G_not (b' := false) (dj := 46) rfl rfl rfl rfl ?_
          refine G_not (b' := false) (dj := 46) rfl rfl rfl rfl ?_
          refine G_not (b' := false) (dj := 46) rfl rfl rfl rfl ?_
          refine G_not (b' := false) (dj := 46) rfl rfl rfl rfl ?_
          refine L_val (v := .bool false) (y_pick_f (ev_tv rfl rfl) ev_c) ?_
          refine L_val (v := .bool false) (y_move (ev_tv rfl rfl)) ?_
          refine G_not (b' := false) (dj := 52) rfl rfl rfl rfl ?_
          refine L_val (v := .bool false) (y_pick_f (ev_tv rfl rfl) ev_c) ?_
          refine L_val (v := .bool false) (y_move (ev_tv rfl rfl)) ?_
          refine G_not (b' := false) (dj := 55) rfl rfl rfl rfl ?_
          refine G_not (b' := false) (dj := 55) rfl rfl rfl rfl ?_
          refine L_val (v := .bool false) (y_pick_f (ev_tv rfl rfl) ev_c) ?_
          refine L_val (v := .bool false) (y_move (ev_tv rfl rfl)) ?_
          refine G_not (b' := false) (dj := 59) rfl rfl rfl rfl ?_
          refine G_not (b' := false) (dj := 59) rfl rfl rfl rfl ?_
          refine G_not (b' := false) (dj := 59) rfl rfl rfl rfl ?_
          refine G_not (b' := false) (dj := 59) rfl rfl rfl rfl ?_
          refine L_val (v := .bool false) (y_pick_f (ev_tv rfl rfl) ev_c) ?_
          refine L_val (v := .bool false) (y_move (ev_tv rfl rfl)) ?_
          refine G_not (b' := false) (dj := 65) rfl rfl rfl rfl ?_
          refine G_not (b' := false) (dj := 65) rfl rfl rfl rfl ?_
          refine G_not (b' := false) (dj := 65) rfl rfl rfl rfl ?_
          refine G_not (b' := false) (dj := 65) rfl rfl rfl rfl ?_
          refine L_val (v := .bool false) (y_pick_f (ev_tv rfl rfl) ev_c) ?_
          refine L_val (v := .bool false) (y_assign (ev_tv rfl rfl)) ?_
          refine l_nil ?_
          refine then_norm ?_
          refine hK17 _ _ ?_
          clear hK17
          refine c_ret ?_
          exact body_1 rfl (ev_tv rfl rfl) H

/-- parapet/buf.New -/
def Vc8 (a_d1 : Option Addr) (a_room2 : Int) (w : World) (R : Ending → World → Prop) : Prop :=
  (((a_d1 = none) → R (.returned (.tuple #[.pointer none, .int .i64 1])) w) ∧ ((a_d1 ≠ none) → ((((a_room2 : Int) < 1) → R (.returned (.tuple #[.pointer none, .int .i64 1])) w) ∧ ((¬ ((a_room2 : Int) < 1)) → ((((1024 : Int) < a_room2) → R (.returned (.tuple #[.pointer none, .int .i64 1])) w) ∧ ((¬ ((1024 : Int) < a_room2)) → (∀ (b3 : Nat) (w4 : World), b3 = World.heapSize w → w4 = World.alloc w (.map #[] 0) → (∀ (b5 : Nat) (w6 : World), b5 = World.heapSize w4 → w6 = World.alloc w4 (.cells #[.pointer a_d1, .int .i64 a_room2, .map (some b3), .slice none 0 0, .int .i64 0, .int .i64 0, .int .i64 0, .int .i64 0] 56) → R (.returned (.tuple #[.pointer (some ⟨b5, 0, none⟩), .int .i64 0])) w6))))))))

theorem vc8 {a_d1 : Option Addr} {a_room2 : Int} {w : World} {R : Ending → World → Prop} (H : Vc8 a_d1 a_room2 w R) : Calls Try.prog 8 #[.pointer a_d1, .int .i64 a_room2] w R := by
  unfold Vc8 at H
  refine calls_start [.pointer a_d1, .int .i64 a_room2] Try.func8 rfl Try.ntmps8 rfl ?_
  refine c_seq ?_
  intro K1 hK1
  refine c_region ?_
  refine L_val (v := .pointer none) (y_assign ev_c) ?_
  refine L_val (v := .int .i64 0) (y_assign ev_c) ?_
  refine l_nil ?_
  refine then_norm ?_
  refine hK1 _ _ ?_
  clear hK1
  refine c_seq ?_
  intro K2 hK2
  refine c_seq ?_
  intro K3 hK3
  refine c_region ?_
  refine L_val (v := .pointer a_d1) (y_move (ev_tv rfl rfl)) ?_
  refine L_val (v := .bool (a_d1.isNone)) (y_peq Try.underlying23 (ev_tv rfl rfl) ev_c) ?_
  refine L_val (v := .bool (a_d1.isNone)) (y_move (ev_tv rfl rfl)) ?_
  rcases (Classical.em (a_d1 = none)) with hb4 | hb4
  · replace H := H.1 hb4
    have hq5 : Value.bool (a_d1.isNone) = Value.bool true := congrArg Value.bool (isn_t hb4)
    refine G_not (b' := true) (dj := 8) rfl rfl hq5 rfl ?_
    refine G_not (b' := true) (dj := 8) rfl rfl hq5 rfl ?_
    refine L_val (v := .bool true) (y_pick_t (ev_tv rfl hq5) ev_c) ?_
    refine L_val (v := .bool true) (y_move (ev_tv rfl rfl)) ?_
    refine G_not (b' := true) (dj := 12) rfl rfl rfl rfl ?_
    refine G_not (b' := true) (dj := 12) rfl rfl rfl rfl ?_
    refine L_val (v := .bool true) (y_pick_t (ev_tv rfl rfl) ev_c) ?_
    refine l_nil ?_
    refine then_norm ?_
    refine hK3 _ _ ?_
    clear hK3
    refine cond_t (ev_tv rfl rfl) ?_
    refine c_seq ?_
    intro K6 hK6
    refine c_region ?_
    refine L_val (v := .pointer none) (y_assign ev_c) ?_
    refine L_val (v := .int .i64 1) (y_assign ev_c) ?_
    refine l_nil ?_
    refine then_norm ?_
    refine hK6 _ _ ?_
    clear hK6
    refine c_ret ?_
    refine then_ret ?_
    exact body_2 rfl (ev_tv rfl rfl) (ev_tv rfl rfl) H
  · replace H := H.2 hb4
    have hq5 : Value.bool (a_d1.isNone) = Value.bool false := congrArg Value.bool (isn_f hb4)
    refine G_val (dj := 8) rfl rfl hq5 (v := .int .i64 a_room2) (y_move (ev_tv rfl rfl)) ?_
    refine G_val (dj := 8) rfl rfl hq5 (v := .bool (decide ((a_room2 : Int) < 1))) (y_lss (ev_tv rfl rfl) ev_c) ?_
    refine L_val (v := .bool (decide ((a_room2 : Int) < 1))) (y_pick_f (ev_tv rfl hq5) (ev_tv rfl rfl)) ?_
    refine L_val (v := .bool (decide ((a_room2 : Int) < 1))) (y_move (ev_tv rfl rfl)) ?_
    rcases (Decidable.em ((a_room2 : Int) < 1)) with hb7 | hb7
    · replace H := H.1 hb7
      have hq8 : Value.bool (decide ((a_room2 : Int) < 1)) = Value.bool true := congrArg Value.bool (decide_eq_true hb7)
      refine G_not (b' := true) (dj := 12) rfl rfl hq8 rfl ?_
      refine G_not (b' := true) (dj := 12) rfl rfl hq8 rfl ?_
      refine L_val (v := .bool true) (y_pick_t (ev_tv rfl hq8) ev_c) ?_
      refine l_nil ?_
      refine then_norm ?_
      refine hK3 _ _ ?_
      clear hK3
      refine cond_t (ev_tv rfl rfl) ?_
      refine c_seq ?_
      intro K9 hK9
      refine c_region ?_
      refine L_val (v := .pointer none) (y_assign ev_c) ?_
      refine L_val (v := .int .i64 1) (y_assign ev_c) ?_
      refine l_nil ?_
      refine then_norm ?_
      refine hK9 _ _ ?_
      clear hK9
      refine c_ret ?_
      refine then_ret ?_
      exact body_2 rfl (ev_tv rfl rfl) (ev_tv rfl rfl) H
    · replace H := H.2 hb7
      have hq8 : Value.bool (decide ((a_room2 : Int) < 1)) = Value.bool false := congrArg Value.bool (decide_eq_false hb7)
      refine G_val (dj := 12) rfl rfl hq8 (v := .int .i64 a_room2) (y_move (ev_tv rfl rfl)) ?_
      refine G_val (dj := 12) rfl rfl hq8 (v := .bool (decide ((1024 : Int) < a_room2))) (y_gtr (ev_tv rfl rfl) ev_c) ?_
      refine L_val (v := .bool (decide ((1024 : Int) < a_room2))) (y_pick_f (ev_tv rfl hq8) (ev_tv rfl rfl)) ?_
      refine l_nil ?_
      refine then_norm ?_
      refine hK3 _ _ ?_
      clear hK3
      rcases (Decidable.em ((1024 : Int) < a_room2)) with hb10 | hb10
      · replace H := H.1 hb10
        have hq11 : Value.bool (decide ((1024 : Int) < a_room2)) = Value.bool true := congrArg Value.bool (decide_eq_true hb10)
        refine cond_t (ev_tv rfl hq11) ?_
        refine c_seq ?_
        intro K12 hK12
        refine c_region ?_
        refine L_val (v := .pointer none) (y_assign ev_c) ?_
        refine L_val (v := .int .i64 1) (y_assign ev_c) ?_
        refine l_nil ?_
        refine then_norm ?_
        refine hK12 _ _ ?_
        clear hK12
        refine c_ret ?_
        refine then_ret ?_
        exact body_2 rfl (ev_tv rfl rfl) (ev_tv rfl rfl) H
      · replace H := H.2 hb10
        have hq11 : Value.bool (decide ((1024 : Int) < a_room2)) = Value.bool false := congrArg Value.bool (decide_eq_false hb10)
        refine cond_f (ev_tv rfl hq11) ?_
        refine c_skip ?_
        refine then_norm ?_
        refine hK2 _ _ ?_
        clear hK2
        refine c_seq ?_
        intro K13 hK13
        refine c_region ?_
        refine L_val (v := .pointer a_d1) (y_move (ev_tv rfl rfl)) ?_
        refine L_val (v := .int .i64 a_room2) (y_move (ev_tv rfl rfl)) ?_
        obtain ⟨b3, hb14⟩ : ∃ b3 : Nat, b3 = World.heapSize w := ⟨_, rfl⟩
        obtain ⟨w4, hw15⟩ : ∃ w4 : World, w4 = World.alloc w (.map #[] 0) := ⟨_, rfl⟩
        replace H := H b3 w4 hb14 hw15
        refine L_val (v := .map (some b3)) (y_makeMap hb14 hw15) ?_
        refine L_val (v := .agg #[.pointer a_d1, .int .i64 a_room2, .map (some b3), .slice none 0 0, .int .i64 0, .int .i64 0, .int .i64 0, .int .i64 0]) (y_build (parts_ev3 (ev_tv rfl rfl) (ev_tv rfl rfl) (ev_tv rfl rfl)) (by kernel_rfl)) ?_
        obtain ⟨b5, hb16⟩ : ∃ b5 : Nat, b5 = World.heapSize w4 := ⟨_, rfl⟩
        obtain ⟨w6, hw17⟩ : ∃ w6 : World, w6 = World.alloc w4 (.cells #[.pointer a_d1, .int .i64 a_room2, .map (some b3), .slice none 0 0, .int .i64 0, .int .i64 0, .int .i64 0, .int .i64 0] 56) := ⟨_, rfl⟩
        replace H := H b5 w6 hb16 hw17
        refine L_val (v := .pointer (some ⟨b5, 0, none⟩)) (y_box (ev_tv rfl rfl) rfl hb16 hw17) ?_
        refine L_val (v := .pointer (some ⟨b5, 0, none⟩)) (y_assign (ev_tv rfl rfl)) ?_
        refine L_val (v := .int .i64 0) (y_assign ev_c) ?_
        refine l_nil ?_
        refine then_norm ?_
        refine hK13 _ _ ?_
        clear hK13
        refine c_ret ?_
        exact body_2 rfl (ev_tv rfl rfl) (ev_tv rfl rfl) H

end Go.Proofs.Ytgkcckghmlccnaa
