/- For each Go function: what must be shown of it, and that this is enough. Printed by a program over the seat's translation. -/
import Derived.Test.YtdhdbdpemejpjaaChecked
import Derived.Test.YtdhdbdpemejpjaaVcOps
namespace Go.Proofs.Ytdhdbdpemejpjaa
open Go Go.Vc
set_option maxRecDepth 100000
set_option linter.unusedVariables false
set_option maxHeartbeats 2000000
theorem Try.mixed : Try.prog.follows .mixedOrders = true := by kernel_rfl


theorem Try.fa34_1 {w : World} {ρ : Operand → Value} {dst : Option Nat} {ty : Nat} {pos : String} {aft : Array Edge} {g : Option (Nat × Bool)} {x : Operand} {b o : Nat} (hx : ρ x = .pointer (some ⟨b, o, none⟩)) : (execOp ρ ⟨dst, .fieldAddr 34 x 1, ty, pos, aft, g⟩).run Try.prog w = .ok (.value (.pointer (some ⟨b, o + 1, none⟩))) w :=
  y_fa (off := 1) (ft := 3) Try.underlying34 (by kernel_rfl) Try.type3 (sz := 0) (by kernel_rfl) hx
theorem Try.fa34_2 {w : World} {ρ : Operand → Value} {dst : Option Nat} {ty : Nat} {pos : String} {aft : Array Edge} {g : Option (Nat × Bool)} {x : Operand} {b o : Nat} (hx : ρ x = .pointer (some ⟨b, o, none⟩)) : (execOp ρ ⟨dst, .fieldAddr 34 x 2, ty, pos, aft, g⟩).run Try.prog w = .ok (.value (.pointer (some ⟨b, o + 2, none⟩))) w :=
  y_fa (off := 2) (ft := 31) Try.underlying34 (by kernel_rfl) Try.type31 (sz := 1) (by kernel_rfl) hx
theorem Try.fa34_3 {w : World} {ρ : Operand → Value} {dst : Option Nat} {ty : Nat} {pos : String} {aft : Array Edge} {g : Option (Nat × Bool)} {x : Operand} {b o : Nat} (hx : ρ x = .pointer (some ⟨b, o, none⟩)) : (execOp ρ ⟨dst, .fieldAddr 34 x 3, ty, pos, aft, g⟩).run Try.prog w = .ok (.value (.pointer (some ⟨b, o + 4, none⟩))) w :=
  y_fa (off := 4) (ft := 32) Try.underlying34 (by kernel_rfl) Try.type32 (sz := 0) (by kernel_rfl) hx
theorem Try.fa31_0 {w : World} {ρ : Operand → Value} {dst : Option Nat} {ty : Nat} {pos : String} {aft : Array Edge} {g : Option (Nat × Bool)} {x : Operand} {b o : Nat} (hx : ρ x = .pointer (some ⟨b, o, none⟩)) : (execOp ρ ⟨dst, .fieldAddr 31 x 0, ty, pos, aft, g⟩).run Try.prog w = .ok (.value (.pointer (some ⟨b, o, none⟩))) w :=
  y_fa (off := 0) (ft := 3) Try.underlying31 (by kernel_rfl) Try.type3 (sz := 0) (by kernel_rfl) hx
theorem Try.fa34_0 {w : World} {ρ : Operand → Value} {dst : Option Nat} {ty : Nat} {pos : String} {aft : Array Edge} {g : Option (Nat × Bool)} {x : Operand} {b o : Nat} (hx : ρ x = .pointer (some ⟨b, o, none⟩)) : (execOp ρ ⟨dst, .fieldAddr 34 x 0, ty, pos, aft, g⟩).run Try.prog w = .ok (.value (.pointer (some ⟨b, o, none⟩))) w :=
  y_fa (off := 0) (ft := 3) Try.underlying34 (by kernel_rfl) Try.type3 (sz := 0) (by kernel_rfl) hx
theorem Try.fa56_1 {w : World} {ρ : Operand → Value} {dst : Option Nat} {ty : Nat} {pos : String} {aft : Array Edge} {g : Option (Nat × Bool)} {x : Operand} {b o : Nat} (hx : ρ x = .pointer (some ⟨b, o, none⟩)) : (execOp ρ ⟨dst, .fieldAddr 56 x 1, ty, pos, aft, g⟩).run Try.prog w = .ok (.value (.pointer (some ⟨b, o + 1, none⟩))) w :=
  y_fa (off := 1) (ft := 53) Try.underlying56 (by kernel_rfl) Try.type53 (sz := 0) (by kernel_rfl) hx
theorem Try.fa59_0 {w : World} {ρ : Operand → Value} {dst : Option Nat} {ty : Nat} {pos : String} {aft : Array Edge} {g : Option (Nat × Bool)} {x : Operand} {b o : Nat} (hx : ρ x = .pointer (some ⟨b, o, none⟩)) : (execOp ρ ⟨dst, .fieldAddr 59 x 0, ty, pos, aft, g⟩).run Try.prog w = .ok (.value (.pointer (some ⟨b, o, none⟩))) w :=
  y_fa (off := 0) (ft := 57) Try.underlying59 (by kernel_rfl) Try.type57 (sz := 0) (by kernel_rfl) hx
theorem Try.fa59_1 {w : World} {ρ : Operand → Value} {dst : Option Nat} {ty : Nat} {pos : String} {aft : Array Edge} {g : Option (Nat × Bool)} {x : Operand} {b o : Nat} (hx : ρ x = .pointer (some ⟨b, o, none⟩)) : (execOp ρ ⟨dst, .fieldAddr 59 x 1, ty, pos, aft, g⟩).run Try.prog w = .ok (.value (.pointer (some ⟨b, o + 1, none⟩))) w :=
  y_fa (off := 1) (ft := 40) Try.underlying59 (by kernel_rfl) Try.type40 (sz := 0) (by kernel_rfl) hx
theorem Try.fa56_0 {w : World} {ρ : Operand → Value} {dst : Option Nat} {ty : Nat} {pos : String} {aft : Array Edge} {g : Option (Nat × Bool)} {x : Operand} {b o : Nat} (hx : ρ x = .pointer (some ⟨b, o, none⟩)) : (execOp ρ ⟨dst, .fieldAddr 56 x 0, ty, pos, aft, g⟩).run Try.prog w = .ok (.value (.pointer (some ⟨b, o, none⟩))) w :=
  y_fa (off := 0) (ft := 3) Try.underlying56 (by kernel_rfl) Try.type3 (sz := 0) (by kernel_rfl) hx
theorem Try.fa64_1 {w : World} {ρ : Operand → Value} {dst : Option Nat} {ty : Nat} {pos : String} {aft : Array Edge} {g : Option (Nat × Bool)} {x : Operand} {b o : Nat} (hx : ρ x = .pointer (some ⟨b, o, none⟩)) : (execOp ρ ⟨dst, .fieldAddr 64 x 1, ty, pos, aft, g⟩).run Try.prog w = .ok (.value (.pointer (some ⟨b, o + 1, none⟩))) w :=
  y_fa (off := 1) (ft := 62) Try.underlying64 (by kernel_rfl) Try.type62 (sz := 7) (by kernel_rfl) hx
theorem Try.fa56_2 {w : World} {ρ : Operand → Value} {dst : Option Nat} {ty : Nat} {pos : String} {aft : Array Edge} {g : Option (Nat × Bool)} {x : Operand} {b o : Nat} (hx : ρ x = .pointer (some ⟨b, o, none⟩)) : (execOp ρ ⟨dst, .fieldAddr 56 x 2, ty, pos, aft, g⟩).run Try.prog w = .ok (.value (.pointer (some ⟨b, o + 2, none⟩))) w :=
  y_fa (off := 2) (ft := 3) Try.underlying56 (by kernel_rfl) Try.type3 (sz := 0) (by kernel_rfl) hx
theorem Try.fa56_3 {w : World} {ρ : Operand → Value} {dst : Option Nat} {ty : Nat} {pos : String} {aft : Array Edge} {g : Option (Nat × Bool)} {x : Operand} {b o : Nat} (hx : ρ x = .pointer (some ⟨b, o, none⟩)) : (execOp ρ ⟨dst, .fieldAddr 56 x 3, ty, pos, aft, g⟩).run Try.prog w = .ok (.value (.pointer (some ⟨b, o + 3, none⟩))) w :=
  y_fa (off := 3) (ft := 54) Try.underlying56 (by kernel_rfl) Try.type54 (sz := 0) (by kernel_rfl) hx
theorem Try.fa64_0 {w : World} {ρ : Operand → Value} {dst : Option Nat} {ty : Nat} {pos : String} {aft : Array Edge} {g : Option (Nat × Bool)} {x : Operand} {b o : Nat} (hx : ρ x = .pointer (some ⟨b, o, none⟩)) : (execOp ρ ⟨dst, .fieldAddr 64 x 0, ty, pos, aft, g⟩).run Try.prog w = .ok (.value (.pointer (some ⟨b, o, none⟩))) w :=
  y_fa (off := 0) (ft := 3) Try.underlying64 (by kernel_rfl) Try.type3 (sz := 0) (by kernel_rfl) hx
theorem Try.fa34_5 {w : World} {ρ : Operand → Value} {dst : Option Nat} {ty : Nat} {pos : String} {aft : Array Edge} {g : Option (Nat × Bool)} {x : Operand} {b o : Nat} (hx : ρ x = .pointer (some ⟨b, o, none⟩)) : (execOp ρ ⟨dst, .fieldAddr 34 x 5, ty, pos, aft, g⟩).run Try.prog w = .ok (.value (.pointer (some ⟨b, o + 6, none⟩))) w :=
  y_fa (off := 6) (ft := 23) Try.underlying34 (by kernel_rfl) Try.type23 (sz := 0) (by kernel_rfl) hx
theorem Try.fa34_4 {w : World} {ρ : Operand → Value} {dst : Option Nat} {ty : Nat} {pos : String} {aft : Array Edge} {g : Option (Nat × Bool)} {x : Operand} {b o : Nat} (hx : ρ x = .pointer (some ⟨b, o, none⟩)) : (execOp ρ ⟨dst, .fieldAddr 34 x 4, ty, pos, aft, g⟩).run Try.prog w = .ok (.value (.pointer (some ⟨b, o + 5, none⟩))) w :=
  y_fa (off := 5) (ft := 3) Try.underlying34 (by kernel_rfl) Try.type3 (sz := 0) (by kernel_rfl) hx
theorem Try.fa71_1 {w : World} {ρ : Operand → Value} {dst : Option Nat} {ty : Nat} {pos : String} {aft : Array Edge} {g : Option (Nat × Bool)} {x : Operand} {b o : Nat} (hx : ρ x = .pointer (some ⟨b, o, none⟩)) : (execOp ρ ⟨dst, .fieldAddr 71 x 1, ty, pos, aft, g⟩).run Try.prog w = .ok (.value (.pointer (some ⟨b, o + 1, none⟩))) w :=
  y_fa (off := 1) (ft := 68) Try.underlying71 (by kernel_rfl) Try.type68 (sz := 0) (by kernel_rfl) hx
theorem Try.fa75_0 {w : World} {ρ : Operand → Value} {dst : Option Nat} {ty : Nat} {pos : String} {aft : Array Edge} {g : Option (Nat × Bool)} {x : Operand} {b o : Nat} (hx : ρ x = .pointer (some ⟨b, o, none⟩)) : (execOp ρ ⟨dst, .fieldAddr 75 x 0, ty, pos, aft, g⟩).run Try.prog w = .ok (.value (.pointer (some ⟨b, o, none⟩))) w :=
  y_fa (off := 0) (ft := 31) Try.underlying75 (by kernel_rfl) Try.type31 (sz := 1) (by kernel_rfl) hx
theorem Try.fa75_1 {w : World} {ρ : Operand → Value} {dst : Option Nat} {ty : Nat} {pos : String} {aft : Array Edge} {g : Option (Nat × Bool)} {x : Operand} {b o : Nat} (hx : ρ x = .pointer (some ⟨b, o, none⟩)) : (execOp ρ ⟨dst, .fieldAddr 75 x 1, ty, pos, aft, g⟩).run Try.prog w = .ok (.value (.pointer (some ⟨b, o + 2, none⟩))) w :=
  y_fa (off := 2) (ft := 32) Try.underlying75 (by kernel_rfl) Try.type32 (sz := 0) (by kernel_rfl) hx
theorem Try.fa71_0 {w : World} {ρ : Operand → Value} {dst : Option Nat} {ty : Nat} {pos : String} {aft : Array Edge} {g : Option (Nat × Bool)} {x : Operand} {b o : Nat} (hx : ρ x = .pointer (some ⟨b, o, none⟩)) : (execOp ρ ⟨dst, .fieldAddr 71 x 0, ty, pos, aft, g⟩).run Try.prog w = .ok (.value (.pointer (some ⟨b, o, none⟩))) w :=
  y_fa (off := 0) (ft := 3) Try.underlying71 (by kernel_rfl) Try.type3 (sz := 0) (by kernel_rfl) hx
theorem Try.fa71_2 {w : World} {ρ : Operand → Value} {dst : Option Nat} {ty : Nat} {pos : String} {aft : Array Edge} {g : Option (Nat × Bool)} {x : Operand} {b o : Nat} (hx : ρ x = .pointer (some ⟨b, o, none⟩)) : (execOp ρ ⟨dst, .fieldAddr 71 x 2, ty, pos, aft, g⟩).run Try.prog w = .ok (.value (.pointer (some ⟨b, o + 2, none⟩))) w :=
  y_fa (off := 2) (ft := 69) Try.underlying71 (by kernel_rfl) Try.type69 (sz := 0) (by kernel_rfl) hx
theorem Try.fa84_2 {w : World} {ρ : Operand → Value} {dst : Option Nat} {ty : Nat} {pos : String} {aft : Array Edge} {g : Option (Nat × Bool)} {x : Operand} {b o : Nat} (hx : ρ x = .pointer (some ⟨b, o, none⟩)) : (execOp ρ ⟨dst, .fieldAddr 84 x 2, ty, pos, aft, g⟩).run Try.prog w = .ok (.value (.pointer (some ⟨b, o + 2, none⟩))) w :=
  y_fa (off := 2) (ft := 23) Try.underlying84 (by kernel_rfl) Try.type23 (sz := 0) (by kernel_rfl) hx
theorem Try.fa84_1 {w : World} {ρ : Operand → Value} {dst : Option Nat} {ty : Nat} {pos : String} {aft : Array Edge} {g : Option (Nat × Bool)} {x : Operand} {b o : Nat} (hx : ρ x = .pointer (some ⟨b, o, none⟩)) : (execOp ρ ⟨dst, .fieldAddr 84 x 1, ty, pos, aft, g⟩).run Try.prog w = .ok (.value (.pointer (some ⟨b, o + 1, none⟩))) w :=
  y_fa (off := 1) (ft := 3) Try.underlying84 (by kernel_rfl) Try.type3 (sz := 0) (by kernel_rfl) hx
theorem Try.fa84_0 {w : World} {ρ : Operand → Value} {dst : Option Nat} {ty : Nat} {pos : String} {aft : Array Edge} {g : Option (Nat × Bool)} {x : Operand} {b o : Nat} (hx : ρ x = .pointer (some ⟨b, o, none⟩)) : (execOp ρ ⟨dst, .fieldAddr 84 x 0, ty, pos, aft, g⟩).run Try.prog w = .ok (.value (.pointer (some ⟨b, o, none⟩))) w :=
  y_fa (off := 0) (ft := 3) Try.underlying84 (by kernel_rfl) Try.type3 (sz := 0) (by kernel_rfl) hx

/-- parapet/parapetlaw07.TlbOver -/
def Vc3 (a_l1 : Option Addr) (a_l1l : Nat) (a_l1c : Nat) (a_space2 : Int) (a_targets3 : Option Addr) (a_targets3l : Nat) (a_targets3c : Nat) (a_order4 : Option Addr) (a_order4l : Nat) (a_order4c : Nat) (w : World) (R : Ending → World → Prop) : Prop :=
  (Calls Try.prog 7 #[.int .i64 4, .int .i64 8] w fun e w7 => ∃ x5 : Option Addr, ∃ x6 : Int, e = .returned (.tuple #[.pointer x5, .int .i64 x6]) ∧ (((¬ ((x6 : Int) = 0)) → R (.returned (.bool false)) w7) ∧ (((x6 : Int) = 0) → (((x5 = none) → R (.returned (.bool false)) w7) ∧ ((x5 ≠ none) → (Calls Try.prog 8 #[] w7 fun e w10 => ∃ x9 : Bool, e = .returned (.bool x9) ∧ (((x9 = true) → (∃ J13 : World → Prop, (∀  (w12 : World), J13  w12 → (Calls Try.prog 10 #[.pointer x5, .int .i64 a_space2, .slice a_targets3 a_targets3l a_targets3c] w12 fun e w15 => ∃ x13 : Int, ∃ x14 : Int, e = .returned (.tuple #[.int .i64 x13, .int .i64 x14]) ∧ (((¬ ((x14 : Int) = 0)) → ((((x13 : Int) = 0) → (Calls Try.prog 11 #[.pointer x5, .int .i64 0] w15 fun e w18 => ∃ x17 : Option Addr, ∃ x17l : Nat, ∃ x17c : Nat, e = .returned (.slice x17 x17l x17c) ∧ R (.returned (.bool (decide ((((x17l : Nat) : Int) : Int) = 0)))) w18)) ∧ ((¬ ((x13 : Int) = 0)) → R (.returned (.bool false)) w15))) ∧ (((x14 : Int) = 0) → (∀ (b20 : Nat) (w21 : World), b20 = World.heapSize w15 → w21 = World.alloc w15 (.cells #[] 3) → (∃ x23 : Option Addr, ∃ x23l : Nat, ∃ x23c : Nat, ∃ w22 : World, (Builtin.append_ #[23, 23] 23 #[.slice (some ⟨b20, 0, none⟩) 0 0, .slice a_targets3 a_targets3l a_targets3c]).run Try.prog w21 = .ok (.slice x23 x23l x23c) w22 ∧ (∃ J31 : Option Addr → Nat → Nat → World → Prop, (∀ (v24 : Option Addr) (v24l : Nat) (v24c : Nat) (w25 : World), J31 v24 v24l v24c w25 → (Calls Try.prog 12 #[.pointer x5, .int .i64 x13] w25 fun e w27 => ∃ x26 : Bool, e = .returned (.bool x26) ∧ ((((!(x26 == (decide ((((v24l : Nat) : Int) : Int) = 0)))) = true) → R (.returned (.bool false)) w27) ∧ (((!(x26 == (decide ((((v24l : Nat) : Int) : Int) = 0)))) = false) → (∃ I45 : Nat → Int → World → Prop, (∃ m, I45 m 0 w27) ∧ ∀ (m30 : Nat) (v29 : Int) (w31 : World), I45 m30 v29 w31 → ((((v29 : Int) < ((a_targets3l : Nat) : Int)) → (∃ J58 : Bool → World → Prop, (∀ (v32 : Bool) (w33 : World), J58 v32 w33 → (∃ (b34 o35 : Nat), a_targets3 = some ⟨b34, o35, none⟩ ∧ ((0 : Int) ≤ v29 ∧ v29 < ((a_targets3l : Nat) : Int) ∧ (∃ x36 : Int, World.cell? w33 ⟨b34, o35 + (v29 : Int).toNat, none⟩ = some (.int .i64 x36) ∧ (Calls Try.prog 14 #[.pointer x5, .int .i64 x36] w33 fun e w38 => ∃ x37 : Option Addr, ∃ x37l : Nat, ∃ x37c : Nat, e = .returned (.slice x37 x37l x37c) ∧ (∃ I70 : Nat → Int → World → Prop, (∃ m, I70 m 0 w38) ∧ ∀ (m41 : Nat) (v40 : Int) (w42 : World), I70 m41 v40 w42 → ((((v40 : Int) < ((x37l : Nat) : Int)) → (((v32 = true) → (∀ r43 : Int, r43 = IntKind.wrap .i64 (v29 + 1) → (∃ m44, m44 < m30 ∧ I45 m44 r43 w42))) ∧ ((v32 = false) → (∃ (b45 o46 : Nat), x37 = some ⟨b45, o46, none⟩ ∧ ((0 : Int) ≤ v40 ∧ v40 < ((x37l : Nat) : Int) ∧ (∃ x47 : Int, World.cell? w42 ⟨b45, o46 + (v40 : Int).toNat * 2, none⟩ = some (.int .i64 x47) ∧ ((((x47 : Int) = a_space2) → R (.returned (.bool false)) w42) ∧ ((¬ ((x47 : Int) = a_space2)) → (∀ r48 : Int, r48 = IntKind.wrap .i64 (v40 + 1) → (∃ m49, m49 < m41 ∧ I70 m49 r48 w42)))))))))) ∧ ((¬ ((v40 : Int) < ((x37l : Nat) : Int))) → (∀ r50 : Int, r50 = IntKind.wrap .i64 (v29 + 1) → (∃ m51, m51 < m30 ∧ I45 m51 r50 w42)))))))))) ∧ (∃ I98 : Nat → Bool → Int → World → Prop, (∃ m, I98 m false 0 w31) ∧ ∀ (m54 : Nat) (v52 : Bool) (v53 : Int) (w55 : World), I98 m54 v52 v53 w55 → ((((v53 : Int) < ((v24l : Nat) : Int)) → (((v52 = true) → (∀ r56 : Int, r56 = IntKind.wrap .i64 (v53 + 1) → (∃ m57, m57 < m54 ∧ I98 m57 true r56 (w55.drew)))) ∧ ((v52 = false) → (∃ (b58 o59 : Nat), v24 = some ⟨b58, o59, none⟩ ∧ ((0 : Int) ≤ v53 ∧ v53 < ((v24l : Nat) : Int) ∧ (∃ (b60 o61 : Nat), a_targets3 = some ⟨b60, o61, none⟩ ∧ ((0 : Int) ≤ v29 ∧ v29 < ((a_targets3l : Nat) : Int) ∧ (∃ x62 : Int, World.cell? (w55.drew) ⟨b58, o59 + (v53 : Int).toNat, none⟩ = some (.int .i64 x62) ∧ (∃ x63 : Int, World.cell? (w55.drew) ⟨b60, o61 + (v29 : Int).toNat, none⟩ = some (.int .i64 x63) ∧ (∀ r64 : Int, r64 = IntKind.wrap .i64 (v53 + 1) → (∃ m65, m65 < m54 ∧ I98 m65 (decide ((x62 : Int) = x63)) r64 (w55.drew)))))))))))) ∧ ((¬ ((v53 : Int) < ((v24l : Nat) : Int))) → J58 v52 w55))))) ∧ ((¬ ((v29 : Int) < ((a_targets3l : Nat) : Int))) → R (.returned (.bool true)) w31))))))) ∧ (∃ I125 : Nat → Option Addr → Nat → Nat → Int → World → Prop, (∃ m, I125 m x23 x23l x23c 0 w22) ∧ ∀ (m68 : Nat) (v66 : Option Addr) (v66l : Nat) (v66c : Nat) (v67 : Int) (w69 : World), I125 m68 v66 v66l v66c v67 w69 → ((((v67 : Int) < ((a_order4l : Nat) : Int)) → (Calls Try.prog 12 #[.pointer x5, .int .i64 x13] w69 fun e w71 => ∃ x70 : Bool, e = .returned (.bool x70) ∧ ((((!(x70 == (decide ((((v66l : Nat) : Int) : Int) = 0)))) = true) → R (.returned (.bool false)) w71) ∧ (((!(x70 == (decide ((((v66l : Nat) : Int) : Int) = 0)))) = false) → (∃ (b73 o74 : Nat), a_order4 = some ⟨b73, o74, none⟩ ∧ ((0 : Int) ≤ v67 ∧ v67 < ((a_order4l : Nat) : Int) ∧ (∃ x75 : Int, World.cell? w71 ⟨b73, o74 + (v67 : Int).toNat, none⟩ = some (.int .i64 x75) ∧ (Calls Try.prog 13 #[.pointer x5, .int .i64 x75] w71 fun e w77 => ∃ x76 : Int, e = .returned (.int .i64 x76) ∧ (∃ I150 : Nat → Option Addr → Nat → Nat → Int → World → Prop, (∃ m, I150 m none 0 0 0 w77) ∧ ∀ (m81 : Nat) (v79 : Option Addr) (v79l : Nat) (v79c : Nat) (v80 : Int) (w82 : World), I150 m81 v79 v79l v79c v80 w82 → ((((v80 : Int) < ((v66l : Nat) : Int)) → (∃ (b83 o84 : Nat), v66 = some ⟨b83, o84, none⟩ ∧ ((0 : Int) ≤ v80 ∧ v80 < ((v66l : Nat) : Int) ∧ ((0 : Int) ≤ v67 ∧ v67 < ((a_order4l : Nat) : Int) ∧ (∃ x85 : Int, World.cell? (w82.drew) ⟨b83, o84 + (v80 : Int).toNat, none⟩ = some (.int .i64 x85) ∧ (∃ x86 : Int, World.cell? (w82.drew) ⟨b73, o74 + (v67 : Int).toNat, none⟩ = some (.int .i64 x86) ∧ (((¬ ((x85 : Int) = x86)) → ((0 : Int) ≤ v80 ∧ v80 < ((v66l : Nat) : Int) ∧ (∃ x87 : Int, World.cell? (w82.drew) ⟨b83, o84 + (v80 : Int).toNat, none⟩ = some (.int .i64 x87) ∧ (∀ (b88 : Nat) (w89 : World), b88 = World.heapSize (w82.drew) → w89 = World.alloc (w82.drew) (.cells #[.int .i64 x87] 3) → (∃ x91 : Option Addr, ∃ x91l : Nat, ∃ x91c : Nat, ∃ w90 : World, (Builtin.append_ #[23, 23] 23 #[.slice v79 v79l v79c, .slice (some ⟨b88, 0, none⟩) 1 1]).run Try.prog w89 = .ok (.slice x91 x91l x91c) w90 ∧ (∀ r92 : Int, r92 = IntKind.wrap .i64 (v80 + 1) → (∃ m93, m93 < m81 ∧ I150 m93 x91 x91l x91c r92 w90))))))) ∧ (((x85 : Int) = x86) → (∀ r94 : Int, r94 = IntKind.wrap .i64 (v80 + 1) → (∃ m95, m95 < m81 ∧ I150 m95 v79 v79l v79c r94 (w82.drew))))))))))) ∧ ((¬ ((v80 : Int) < ((v66l : Nat) : Int))) → (∀ r96 : Int, r96 = IntKind.wrap .i64 (v67 + 1) → (∃ m97, m97 < m68 ∧ I125 m97 v79 v79l v79c r96 w82))))))))))))) ∧ ((¬ ((v67 : Int) < ((a_order4l : Nat) : Int))) → J31 v66 v66l v66c w69)))))))))) ∧ (∃ I185 : Nat → Int → World → Prop, (∃ m, I185 m 0 w10) ∧ ∀ (m99 : Nat) (v98 : Int) (w100 : World), I185 m99 v98 w100 → ((((v98 : Int) < ((a_l1l : Nat) : Int)) → (∃ (b101 o102 : Nat), a_l1 = some ⟨b101, o102, none⟩ ∧ ((0 : Int) ≤ v98 ∧ v98 < ((a_l1l : Nat) : Int) ∧ ((0 : Int) ≤ v98 ∧ v98 < ((a_l1l : Nat) : Int) ∧ ((0 : Int) ≤ v98 ∧ v98 < ((a_l1l : Nat) : Int) ∧ (∃ x103 : Int, World.cell? (w100.drew) ⟨b101, o102 + (v98 : Int).toNat * 7 + 1, none⟩ = some (.int .i64 x103) ∧ (∃ x104 : Int, ∃ x105 : Int, CellsAt (w100.drew) ⟨b101, o102 + (v98 : Int).toNat * 7 + 2, none⟩ [.int .i64 x104, .int .i64 x105] ∧ (∃ x106 : Int, World.cell? (w100.drew) ⟨b101, o102 + (v98 : Int).toNat * 7 + 4, none⟩ = some (.int .u32 x106) ∧ (Calls Try.prog 9 #[.pointer x5, .int .i64 x103, .agg #[.int .i64 x104, .int .i64 x105], .int .u32 x106] (w100.drew) fun e w108 => ∃ x107 : Int, e = .returned (.int .i64 x107) ∧ (∀ r109 : Int, r109 = IntKind.wrap .i64 (v98 + 1) → (∃ m110, m110 < m99 ∧ I185 m110 r109 w108))))))))))) ∧ ((¬ ((v98 : Int) < ((a_l1l : Nat) : Int))) → J13  w100))))) ∧ ((x9 = false) → R (.returned (.bool false)) w10))))))))

theorem vc3 {a_l1 : Option Addr} {a_l1l : Nat} {a_l1c : Nat} {a_space2 : Int} {a_targets3 : Option Addr} {a_targets3l : Nat} {a_targets3c : Nat} {a_order4 : Option Addr} {a_order4l : Nat} {a_order4c : Nat} {w : World} {R : Ending → World → Prop} (H : Vc3 a_l1 a_l1l a_l1c a_space2 a_targets3 a_targets3l a_targets3c a_order4 a_order4l a_order4c w R) : Calls Try.prog 3 #[.slice a_l1 a_l1l a_l1c, .int .i64 a_space2, .slice a_targets3 a_targets3l a_targets3c, .slice a_order4 a_order4l a_order4c] w R := by
  unfold Vc3 at H
  refine calls_start [.slice a_l1 a_l1l a_l1c, .int .i64 a_space2, .slice a_targets3 a_targets3l a_targets3c, .slice a_order4 a_order4l a_order4c] Try.func3 rfl Try.ntmps3 rfl ?_
  refine c_seq ?_
  intro K1 hK1
  refine c_region ?_
  refine L_val (v := .bool false) (y_assign ev_c) ?_
  refine l_nil ?_
  refine then_norm ?_
  refine hK1 _ _ ?_
  clear hK1
  refine c_seq ?_
  intro K2 hK2
  refine c_region ?_
  refine L_call (y_call Try.call7 (map_ev2 ev_c ev_c) ev_f) (Calls.mono H ?_)
  clear H
  rintro _ w7 ⟨x5, x6, rfl, H⟩
  refine ⟨_, rfl, ?_⟩
  refine L_val (v := .tuple #[.pointer x5, .int .i64 x6]) (y_move (ev_tv rfl rfl)) ?_
  refine L_val (v := .pointer x5) (y_extract (ev_tv rfl rfl) rfl) ?_
  refine L_val (v := .int .i64 x6) (y_extract (ev_tv rfl rfl) rfl) ?_
  refine L_val (v := .pointer x5) (y_assign (ev_tv rfl rfl)) ?_
  refine L_val (v := .int .i64 x6) (y_assign (ev_tv rfl rfl)) ?_
  refine l_nil ?_
  refine then_norm ?_
  refine hK2 _ _ ?_
  clear hK2
  refine c_seq ?_
  intro K3 hK3
  refine c_seq ?_
  intro K4 hK4
  refine c_region ?_
  refine L_val (v := .int .i64 x6) (y_move (ev_tv rfl rfl)) ?_
  refine L_val (v := .bool (!decide ((x6 : Int) = 0))) (y_ine (ev_tv rfl rfl) ev_c) ?_
  refine L_val (v := .bool (!decide ((x6 : Int) = 0))) (y_move (ev_tv rfl rfl)) ?_
  rcases (Decidable.em ((x6 : Int) = 0)).symm with hb5 | hb5
  · replace H := H.1 hb5
    have hq6 : Value.bool (!decide ((x6 : Int) = 0)) = Value.bool true := congrArg Value.bool (ndec_t hb5)
    refine G_not (b' := true) (dj := 28) rfl rfl hq6 rfl ?_
    refine G_not (b' := true) (dj := 28) rfl rfl hq6 rfl ?_
    refine L_val (v := .bool true) (y_pick_t (ev_tv rfl hq6) ev_c) ?_
    refine L_val (v := .bool true) (y_move (ev_tv rfl rfl)) ?_
    refine G_not (b' := true) (dj := 32) rfl rfl rfl rfl ?_
    refine G_not (b' := true) (dj := 32) rfl rfl rfl rfl ?_
    refine L_val (v := .bool true) (y_pick_t (ev_tv rfl rfl) ev_c) ?_
    refine l_nil ?_
    refine then_norm ?_
    refine hK4 _ _ ?_
    clear hK4
    refine cond_t (ev_tv rfl rfl) ?_
    refine c_seq ?_
    intro K7 hK7
    refine c_region ?_
    refine L_val (v := .bool false) (y_assign ev_c) ?_
    refine l_nil ?_
    refine then_norm ?_
    refine hK7 _ _ ?_
    clear hK7
    refine c_ret ?_
    refine then_ret ?_
    exact body_1 rfl (ev_tv rfl rfl) H
  · replace H := H.2 hb5
    have hq6 : Value.bool (!decide ((x6 : Int) = 0)) = Value.bool false := congrArg Value.bool (ndec_f hb5)
    refine G_val (dj := 28) rfl rfl hq6 (v := .pointer x5) (y_move (ev_tv rfl rfl)) ?_
    refine G_val (dj := 28) rfl rfl hq6 (v := .bool (x5.isNone)) (y_peq Try.underlying24 (ev_tv rfl rfl) ev_c) ?_
    refine L_val (v := .bool (x5.isNone)) (y_pick_f (ev_tv rfl hq6) (ev_tv rfl rfl)) ?_
    refine L_val (v := .bool (x5.isNone)) (y_move (ev_tv rfl rfl)) ?_
    rcases (Classical.em (x5 = none)) with hb8 | hb8
    · replace H := H.1 hb8
      have hq9 : Value.bool (x5.isNone) = Value.bool true := congrArg Value.bool (isn_t hb8)
      refine G_not (b' := true) (dj := 32) rfl rfl hq9 rfl ?_
      refine G_not (b' := true) (dj := 32) rfl rfl hq9 rfl ?_
      refine L_val (v := .bool true) (y_pick_t (ev_tv rfl hq9) ev_c) ?_
      refine l_nil ?_
      refine then_norm ?_
      refine hK4 _ _ ?_
      clear hK4
      refine cond_t (ev_tv rfl rfl) ?_
      refine c_seq ?_
      intro K10 hK10
      refine c_region ?_
      refine L_val (v := .bool false) (y_assign ev_c) ?_
      refine l_nil ?_
      refine then_norm ?_
      refine hK10 _ _ ?_
      clear hK10
      refine c_ret ?_
      refine then_ret ?_
      exact body_1 rfl (ev_tv rfl rfl) H
    · replace H := H.2 hb8
      have hq9 : Value.bool (x5.isNone) = Value.bool false := congrArg Value.bool (isn_f hb8)
      refine G_call (dj := 32) rfl rfl hq9 (y_call Try.call8 map_ev0 ev_f) (Calls.mono H ?_)
      clear H
      rintro _ w10 ⟨x9, rfl, H⟩
      refine ⟨_, rfl, ?_⟩
      rcases Bool.eq_false_or_eq_true x9 with hb11 | hb11
      · replace H := H.1 hb11
        have hq12 : Value.bool (x9) = Value.bool true := congrArg Value.bool hb11
        refine G_val (dj := 32) rfl rfl hq9 (v := .bool false) (y_not_t (ev_tv rfl hq12)) ?_
        refine L_val (v := .bool false) (y_pick_f (ev_tv rfl hq9) (ev_tv rfl rfl)) ?_
        refine l_nil ?_
        refine then_norm ?_
        refine hK4 _ _ ?_
        clear hK4
        refine cond_f (ev_tv rfl rfl) ?_
        refine c_skip ?_
        refine then_norm ?_
        refine hK3 _ _ ?_
        clear hK3
        obtain ⟨J13, hJ14, H⟩ := H
        refine c_seqJ [(11, 11), (36, 58)] (fun ff ww => J13  ww) ?_ ?_
        · clear hJ14
          intro K18 hK18
          refine c_seq ?_
          intro K184 hK184
          refine c_region ?_
          refine L_val (v := .int .i64 0) (y_assign ev_c) ?_
          refine l_nil ?_
          refine then_norm ?_
          refine hK184 _ _ ?_
          clear hK184
          refine c_block ?_
          obtain ⟨I185, ⟨m189, HI190⟩, H⟩ := H
          refine loop_fr ([(11, 11), (36, 58)]) (fun m ff ww => ∃ (v98 : Int), ff 11 = (.int .i64 v98 : Value) ∧ I185 m v98 ww) m189 ⟨0, rfl, HI190⟩ ?_
          rintro m99 f186 w100 hag187 ⟨v98, hs191, HI188⟩
          replace H := H m99 v98 w100 HI188
          refine c_seq ?_
          intro K192 hK192
          refine c_seq ?_
          intro K193 hK193
          refine c_region ?_
          refine L_val (v := .int .i64 v98) (y_move (ev_tv rfl hs191)) ?_
          refine L_val (v := .slice a_l1 a_l1l a_l1c) (y_move (ev_tv rfl ((hag187 0 rfl).trans rfl))) ?_
          refine L_val (v := .int .i64 ((a_l1l : Nat) : Int)) (y_len Try.underlying22 rfl (map_ev1 (ev_tv rfl rfl))) ?_
          refine L_val (v := .bool (decide ((v98 : Int) < ((a_l1l : Nat) : Int)))) (y_lss (ev_tv rfl rfl) (ev_tv rfl rfl)) ?_
          refine l_nil ?_
          refine then_norm ?_
          refine hK193 _ _ ?_
          clear hK193
          rcases (Decidable.em ((v98 : Int) < ((a_l1l : Nat) : Int))) with hb194 | hb194
          · replace H := H.1 hb194
            have hq195 : Value.bool (decide ((v98 : Int) < ((a_l1l : Nat) : Int))) = Value.bool true := congrArg Value.bool (decide_eq_true hb194)
            refine cond_t (ev_tv rfl hq195) ?_
            refine c_skip ?_
            refine then_norm ?_
            refine hK192 _ _ ?_
            clear hK192
            refine c_seq ?_
            intro K196 hK196
            refine c_block ?_
            refine D_start Try.mixed rfl [16] ?_
            refine start_keep fun hS => ?_
            refine D_pure (i := 0) (v := .pointer x5) rfl (by kernel_rfl) (W_none rfl) (fun _ => y_move (ev_tv rfl ((hag187 9 rfl).trans rfl))) hS ?_
            intro hS
            refine D_pure (i := 1) (v := .slice a_l1 a_l1l a_l1c) rfl (by kernel_rfl) (W_none rfl) (fun _ => y_move (ev_tv rfl ((hag187 0 rfl).trans rfl))) hS ?_
            intro hS
            refine D_pure (i := 2) (v := .int .i64 v98) rfl (by kernel_rfl) (W_none rfl) (fun _ => y_move (ev_tv rfl hs191)) hS ?_
            intro hS
            obtain ⟨b101, o102, rfl, H⟩ := H
            obtain ⟨hi197, hi198, H⟩ := H
            refine D_pure (i := 3) (v := .pointer (some ⟨b101, o102 + (v98 : Int).toNat * 7, none⟩)) rfl (by kernel_rfl) (W_none rfl) (fun _ => y_ix Try.underlying22 Try.type34 rfl (ev_tv rfl rfl) (ev_tv rfl rfl) hi197 hi198) hS ?_
            intro hS
            refine D_pure (i := 4) (v := .pointer (some ⟨b101, o102 + (v98 : Int).toNat * 7 + 1, none⟩)) rfl (by kernel_rfl) (W_none rfl) (fun _ => Try.fa34_1 (ev_tv rfl rfl)) hS ?_
            intro hS
            refine D_pure (i := 6) (v := .slice (some ⟨b101, o102, none⟩) a_l1l a_l1c) rfl (by kernel_rfl) (W_none rfl) (fun _ => y_move (ev_tv rfl ((hag187 0 rfl).trans rfl))) hS ?_
            intro hS
            refine D_pure (i := 7) (v := .int .i64 v98) rfl (by kernel_rfl) (W_none rfl) (fun _ => y_move (ev_tv rfl hs191)) hS ?_
            intro hS
            obtain ⟨hi199, hi200, H⟩ := H
            refine D_pure (i := 8) (v := .pointer (some ⟨b101, o102 + (v98 : Int).toNat * 7, none⟩)) rfl (by kernel_rfl) (W_none rfl) (fun _ => y_ix Try.underlying22 Try.type34 rfl (ev_tv rfl rfl) (ev_tv rfl rfl) hi199 hi200) hS ?_
            intro hS
            refine D_pure (i := 9) (v := .pointer (some ⟨b101, o102 + (v98 : Int).toNat * 7 + 2, none⟩)) rfl (by kernel_rfl) (W_none rfl) (fun _ => Try.fa34_2 (ev_tv rfl rfl)) hS ?_
            intro hS
            refine D_pure (i := 11) (v := .slice (some ⟨b101, o102, none⟩) a_l1l a_l1c) rfl (by kernel_rfl) (W_none rfl) (fun _ => y_move (ev_tv rfl ((hag187 0 rfl).trans rfl))) hS ?_
            intro hS
            refine D_pure (i := 12) (v := .int .i64 v98) rfl (by kernel_rfl) (W_none rfl) (fun _ => y_move (ev_tv rfl hs191)) hS ?_
            intro hS
            obtain ⟨hi201, hi202, H⟩ := H
            refine D_pure (i := 13) (v := .pointer (some ⟨b101, o102 + (v98 : Int).toNat * 7, none⟩)) rfl (by kernel_rfl) (W_none rfl) (fun _ => y_ix Try.underlying22 Try.type34 rfl (ev_tv rfl rfl) (ev_tv rfl rfl) hi201 hi202) hS ?_
            intro hS
            refine D_pure (i := 14) (v := .pointer (some ⟨b101, o102 + (v98 : Int).toNat * 7 + 4, none⟩)) rfl (by kernel_rfl) (W_none rfl) (fun _ => Try.fa34_3 (ev_tv rfl rfl)) hS ?_
            intro hS
            obtain ⟨x103, hc203, H⟩ := H
            refine D_read (i := 5) (v := .int .i64 x103) rfl (by kernel_rfl) (W_none rfl) (fun wx => World.cell? wx ⟨b101, o102 + (v98 : Int).toNat * 7 + 1, none⟩ = some (.int .i64 x103)) hc203 (fun _ hcx => y_load Try.underlying3 rfl (ev_tv rfl rfl) hcx) hS ?_
            intro hS
            obtain ⟨x104, x105, hc204, H⟩ := H
            refine D_read (i := 10) (v := .agg #[.int .i64 x104, .int .i64 x105]) rfl (by kernel_rfl) (W_none rfl) (fun wx => CellsAt wx ⟨b101, o102 + (v98 : Int).toNat * 7 + 2, none⟩ [.int .i64 x104, .int .i64 x105]) hc204 (fun _ hcx => y_loadAgg Try.underlying31 rfl Try.type31 rfl (ev_tv rfl rfl) hcx) hS ?_
            intro hS
            obtain ⟨x106, hc205, H⟩ := H
            refine D_read (i := 15) (v := .int .u32 x106) rfl (by kernel_rfl) (W_none rfl) (fun wx => World.cell? wx ⟨b101, o102 + (v98 : Int).toNat * 7 + 4, none⟩ = some (.int .u32 x106)) hc205 (fun _ hcx => y_load Try.underlying32 rfl (ev_tv rfl rfl) hcx) hS ?_
            intro hS
            refine D_only (i := 16) (by kernel_rfl) rfl ?_
            refine O_call (i := 16) rfl (W_none rfl) (y_call Try.call9 (map_ev4 (ev_tv rfl rfl) (ev_tv rfl rfl) (ev_tv rfl rfl) (ev_tv rfl rfl)) ev_f) (Calls.mono H ?_)
            clear H
            rintro _ w108 ⟨x107, rfl, H⟩
            refine ⟨_, rfl, ?_⟩
            refine and_keep (SS_off (by kernel_rfl) (SS_off (by kernel_rfl) (SS_off (by kernel_rfl) SS_nil))) fun hS => ?_
            refine D_done (by kernel_rfl) ?_
            refine block_norm ?_
            refine then_norm ?_
            refine hK196 _ _ ?_
            clear hK196
            refine c_region ?_
            refine L_val (v := .int .i64 v98) (y_move (ev_tv rfl hs191)) ?_
            obtain ⟨r109, hr206⟩ : ∃ r109 : Int, r109 = IntKind.wrap .i64 (v98 + 1) := ⟨_, rfl⟩
            replace H := H r109 hr206
            refine L_val (v := .int .i64 r109) (y_add (ev_tv rfl rfl) ev_c hr206) ?_
            refine L_val (v := .int .i64 r109) (y_assign (ev_tv rfl rfl)) ?_
            refine l_nil ?_
            refine then_norm ?_
            obtain ⟨m110, hm207, H⟩ := H
            exact ⟨_, rfl, (by repeat (first | exact agree_refl | exact hag187 | refine agree_upd rfl ?_ | refine agree_via hag187 rfl ?_)), m110, hm207, _, rfl, H⟩
          · replace H := H.2 hb194
            have hq195 : Value.bool (decide ((v98 : Int) < ((a_l1l : Nat) : Int))) = Value.bool false := congrArg Value.bool (decide_eq_false hb194)
            refine cond_f (ev_tv rfl hq195) ?_
            refine c_exit ?_
            refine then_exit ?_
            refine then_exit ?_
            refine block_hit ?_
            refine then_norm ?_
            exact hK18 _ _ (by repeat (first | exact agree_refl | exact hag187 | refine agree_upd rfl ?_ | refine agree_via hag187 rfl ?_)) H
        · clear H
          intro f15 w12 hag16 HJ17
          have H := hJ14  w12 HJ17
          clear hJ14
          refine c_seq ?_
          intro K19 hK19
          refine c_region ?_
          refine L_val (v := .pointer x5) (y_move (ev_tv rfl ((hag16 9 rfl).trans rfl))) ?_
          refine L_val (v := .int .i64 a_space2) (y_move (ev_tv rfl ((hag16 1 rfl).trans rfl))) ?_
          refine L_val (v := .slice a_targets3 a_targets3l a_targets3c) (y_move (ev_tv rfl ((hag16 2 rfl).trans rfl))) ?_
          refine L_call (y_call Try.call10 (map_ev3 (ev_tv rfl rfl) (ev_tv rfl rfl) (ev_tv rfl rfl)) ev_f) (Calls.mono H ?_)
          clear H
          rintro _ w15 ⟨x13, x14, rfl, H⟩
          refine ⟨_, rfl, ?_⟩
          refine L_val (v := .tuple #[.int .i64 x13, .int .i64 x14]) (y_move (ev_tv rfl rfl)) ?_
          refine L_val (v := .int .i64 x13) (y_extract (ev_tv rfl rfl) rfl) ?_
          refine L_val (v := .int .i64 x14) (y_extract (ev_tv rfl rfl) rfl) ?_
          refine L_val (v := .int .i64 x13) (y_assign (ev_tv rfl rfl)) ?_
          refine L_val (v := .int .i64 x14) (y_assign (ev_tv rfl rfl)) ?_
          refine l_nil ?_
          refine then_norm ?_
          refine hK19 _ _ ?_
          clear hK19
          refine c_seq ?_
          intro K20 hK20
          refine c_seq ?_
          intro K21 hK21
          refine c_region ?_
          refine L_val (v := .int .i64 x14) (y_move (ev_tv rfl rfl)) ?_
          refine L_val (v := .bool (!decide ((x14 : Int) = 0))) (y_ine (ev_tv rfl rfl) ev_c) ?_
          refine l_nil ?_
          refine then_norm ?_
          refine hK21 _ _ ?_
          clear hK21
          rcases (Decidable.em ((x14 : Int) = 0)).symm with hb22 | hb22
          · replace H := H.1 hb22
            have hq23 : Value.bool (!decide ((x14 : Int) = 0)) = Value.bool true := congrArg Value.bool (ndec_t hb22)
            refine cond_t (ev_tv rfl hq23) ?_
            refine c_seq ?_
            intro K24 hK24
            refine c_region ?_
            refine L_val (v := .int .i64 x13) (y_move (ev_tv rfl rfl)) ?_
            refine L_val (v := .bool (decide ((x13 : Int) = 0))) (y_ieq (ev_tv rfl rfl) ev_c) ?_
            refine L_val (v := .bool (decide ((x13 : Int) = 0))) (y_move (ev_tv rfl rfl)) ?_
            rcases (Decidable.em ((x13 : Int) = 0)) with hb25 | hb25
            · replace H := H.1 hb25
              have hq26 : Value.bool (decide ((x13 : Int) = 0)) = Value.bool true := congrArg Value.bool (decide_eq_true hb25)
              refine G_val (dj := 70) rfl rfl hq26 (v := .pointer x5) (y_move (ev_tv rfl ((hag16 9 rfl).trans rfl))) ?_
              refine G_call (dj := 70) rfl rfl hq26 (y_call Try.call11 (map_ev2 (ev_tv rfl rfl) ev_c) ev_f) (Calls.mono H ?_)
              clear H
              rintro _ w18 ⟨x17, x17l, x17c, rfl, H⟩
              refine ⟨_, rfl, ?_⟩
              refine G_val (dj := 70) rfl rfl hq26 (v := .int .i64 ((x17l : Nat) : Int)) (y_len Try.underlying23 rfl (map_ev1 (ev_tv rfl rfl))) ?_
              refine G_val (dj := 70) rfl rfl hq26 (v := .bool (decide ((((x17l : Nat) : Int) : Int) = 0))) (y_ieq (ev_tv rfl rfl) ev_c) ?_
              refine L_val (v := .bool (decide ((((x17l : Nat) : Int) : Int) = 0))) (y_pick_t (ev_tv rfl hq26) (ev_tv rfl rfl)) ?_
              refine L_val (v := .bool (decide ((((x17l : Nat) : Int) : Int) = 0))) (y_assign (ev_tv rfl rfl)) ?_
              refine l_nil ?_
              refine then_norm ?_
              refine hK24 _ _ ?_
              clear hK24
              refine c_ret ?_
              refine then_ret ?_
              exact body_1 rfl (ev_tv rfl rfl) H
            · replace H := H.2 hb25
              have hq26 : Value.bool (decide ((x13 : Int) = 0)) = Value.bool false := congrArg Value.bool (decide_eq_false hb25)
              refine G_not (b' := false) (dj := 70) rfl rfl hq26 rfl ?_
              refine G_not (b' := false) (dj := 70) rfl rfl hq26 rfl ?_
              refine G_not (b' := false) (dj := 70) rfl rfl hq26 rfl ?_
              refine G_not (b' := false) (dj := 70) rfl rfl hq26 rfl ?_
              refine L_val (v := .bool false) (y_pick_f (ev_tv rfl hq26) ev_c) ?_
              refine L_val (v := .bool false) (y_assign (ev_tv rfl rfl)) ?_
              refine l_nil ?_
              refine then_norm ?_
              refine hK24 _ _ ?_
              clear hK24
              refine c_ret ?_
              refine then_ret ?_
              exact body_1 rfl (ev_tv rfl rfl) H
          · replace H := H.2 hb22
            have hq23 : Value.bool (!decide ((x14 : Int) = 0)) = Value.bool false := congrArg Value.bool (ndec_f hb22)
            refine cond_f (ev_tv rfl hq23) ?_
            refine c_skip ?_
            refine then_norm ?_
            refine hK20 _ _ ?_
            clear hK20
            refine c_seq ?_
            intro K27 hK27
            refine c_region ?_
            obtain ⟨b20, hb28⟩ : ∃ b20 : Nat, b20 = World.heapSize w15 := ⟨_, rfl⟩
            obtain ⟨w21, hw29⟩ : ∃ w21 : World, w21 = World.alloc w15 (.cells #[] 3) := ⟨_, rfl⟩
            replace H := H b20 w21 hb28 hw29
            refine L_val (v := .slice (some ⟨b20, 0, none⟩) 0 0) (y_buildSlice rfl hb28 hw29 (by kernel_rfl)) ?_
            refine L_val (v := .slice a_targets3 a_targets3l a_targets3c) (y_move (ev_tv rfl ((hag16 2 rfl).trans rfl))) ?_
            obtain ⟨x23, x23l, x23c, w22, hc30, H⟩ := H
            refine L_val (v := .slice x23 x23l x23c) (y_bi_append (map_ev2 (ev_tv rfl rfl) (ev_tv rfl rfl)) hc30) ?_
            refine L_val (v := .slice x23 x23l x23c) (y_assign (ev_tv rfl rfl)) ?_
            refine l_nil ?_
            refine then_norm ?_
            refine hK27 _ _ ?_
            clear hK27
            obtain ⟨J31, hJ32, H⟩ := H
            refine c_seqJ [(8, 8), (13, 16), (79, 120)] (fun ff ww => ∃ (v24 : Option Addr) (v24l : Nat) (v24c : Nat), ff 13 = (.slice v24 v24l v24c : Value) ∧ J31 v24 v24l v24c ww) ?_ ?_
            · clear hJ32
              intro K36 hK36
              refine c_seq ?_
              intro K124 hK124
              refine c_region ?_
              refine L_val (v := .int .i64 0) (y_assign ev_c) ?_
              refine l_nil ?_
              refine then_norm ?_
              refine hK124 _ _ ?_
              clear hK124
              refine c_block ?_
              obtain ⟨I125, ⟨m129, HI130⟩, H⟩ := H
              refine loop_fr ([(8, 8), (13, 16), (79, 120)]) (fun m ff ww => ∃ (v66 : Option Addr) (v66l : Nat) (v66c : Nat) (v67 : Int), ff 13 = (.slice v66 v66l v66c : Value) ∧ ff 14 = (.int .i64 v67 : Value) ∧ I125 m v66 v66l v66c v67 ww) m129 ⟨x23, x23l, x23c, 0, rfl, rfl, HI130⟩ ?_
              rintro m68 f126 w69 hag127 ⟨v66, v66l, v66c, v67, hs131, hs132, HI128⟩
              replace H := H m68 v66 v66l v66c v67 w69 HI128
              refine c_seq ?_
              intro K133 hK133
              refine c_seq ?_
              intro K134 hK134
              refine c_region ?_
              refine L_val (v := .int .i64 v67) (y_move (ev_tv rfl hs132)) ?_
              refine L_val (v := .slice a_order4 a_order4l a_order4c) (y_move (ev_tv rfl ((hag127 3 rfl).trans ((hag16 3 rfl).trans rfl)))) ?_
              refine L_val (v := .int .i64 ((a_order4l : Nat) : Int)) (y_len Try.underlying23 rfl (map_ev1 (ev_tv rfl rfl))) ?_
              refine L_val (v := .bool (decide ((v67 : Int) < ((a_order4l : Nat) : Int)))) (y_lss (ev_tv rfl rfl) (ev_tv rfl rfl)) ?_
              refine l_nil ?_
              refine then_norm ?_
              refine hK134 _ _ ?_
              clear hK134
              rcases (Decidable.em ((v67 : Int) < ((a_order4l : Nat) : Int))) with hb135 | hb135
              · replace H := H.1 hb135
                have hq136 : Value.bool (decide ((v67 : Int) < ((a_order4l : Nat) : Int))) = Value.bool true := congrArg Value.bool (decide_eq_true hb135)
                refine cond_t (ev_tv rfl hq136) ?_
                refine c_skip ?_
                refine then_norm ?_
                refine hK133 _ _ ?_
                clear hK133
                refine c_seq ?_
                intro K137 hK137
                refine c_block ?_
                refine c_seq ?_
                intro K138 hK138
                refine c_seq ?_
                intro K139 hK139
                refine c_region ?_
                refine L_val (v := .pointer x5) (y_move (ev_tv rfl ((hag127 9 rfl).trans ((hag16 9 rfl).trans rfl)))) ?_
                refine L_val (v := .int .i64 x13) (y_move (ev_tv rfl ((hag127 12 rfl).trans rfl))) ?_
                refine L_call (y_call Try.call12 (map_ev2 (ev_tv rfl rfl) (ev_tv rfl rfl)) ev_f) (Calls.mono H ?_)
                clear H
                rintro _ w71 ⟨x70, rfl, H⟩
                refine ⟨_, rfl, ?_⟩
                refine L_val (v := .slice v66 v66l v66c) (y_move (ev_tv rfl hs131)) ?_
                refine L_val (v := .int .i64 ((v66l : Nat) : Int)) (y_len Try.underlying23 rfl (map_ev1 (ev_tv rfl rfl))) ?_
                refine L_val (v := .bool (decide ((((v66l : Nat) : Int) : Int) = 0))) (y_ieq (ev_tv rfl rfl) ev_c) ?_
                refine L_val (v := .bool (!(x70 == (decide ((((v66l : Nat) : Int) : Int) = 0))))) (y_bne Try.underlying4 (ev_tv rfl rfl) (ev_tv rfl rfl)) ?_
                refine l_nil ?_
                refine then_norm ?_
                refine hK139 _ _ ?_
                clear hK139
                rcases Bool.eq_false_or_eq_true (!(x70 == (decide ((((v66l : Nat) : Int) : Int) = 0)))) with hb140 | hb140
                · replace H := H.1 hb140
                  have hq141 : Value.bool (!(x70 == (decide ((((v66l : Nat) : Int) : Int) = 0)))) = Value.bool true := congrArg Value.bool hb140
                  refine cond_t (ev_tv rfl hq141) ?_
                  refine c_seq ?_
                  intro K142 hK142
                  refine c_region ?_
                  refine L_val (v := .bool false) (y_assign ev_c) ?_
                  refine l_nil ?_
                  refine then_norm ?_
                  refine hK142 _ _ ?_
                  clear hK142
                  refine c_ret ?_
                  refine then_ret ?_
                  refine block_ret ?_
                  refine then_ret ?_
                  refine then_ret ?_
                  refine block_ret ?_
                  refine then_ret ?_
                  exact body_1 rfl (ev_tv rfl rfl) H
                · replace H := H.2 hb140
                  have hq141 : Value.bool (!(x70 == (decide ((((v66l : Nat) : Int) : Int) = 0)))) = Value.bool false := congrArg Value.bool hb140
                  refine cond_f (ev_tv rfl hq141) ?_
                  refine c_skip ?_
                  refine then_norm ?_
                  refine hK138 _ _ ?_
                  clear hK138
                  refine c_seq ?_
                  intro K143 hK143
                  refine c_region ?_
                  refine L_val (v := .pointer x5) (y_move (ev_tv rfl ((hag127 9 rfl).trans ((hag16 9 rfl).trans rfl)))) ?_
                  refine L_val (v := .slice a_order4 a_order4l a_order4c) (y_move (ev_tv rfl ((hag127 3 rfl).trans ((hag16 3 rfl).trans rfl)))) ?_
                  refine L_val (v := .int .i64 v67) (y_move (ev_tv rfl hs132)) ?_
                  obtain ⟨b73, o74, rfl, H⟩ := H
                  obtain ⟨hi144, hi145, H⟩ := H
                  refine L_val (v := .pointer (some ⟨b73, o74 + (v67 : Int).toNat, none⟩)) (y_ix1 Try.underlying23 Try.type3 rfl (ev_tv rfl rfl) (ev_tv rfl rfl) hi144 hi145) ?_
                  obtain ⟨x75, hc146, H⟩ := H
                  refine L_val (v := .int .i64 x75) (y_load Try.underlying3 rfl (ev_tv rfl rfl) hc146) ?_
                  refine L_call (y_call Try.call13 (map_ev2 (ev_tv rfl rfl) (ev_tv rfl rfl)) ev_f) (Calls.mono H ?_)
                  clear H
                  rintro _ w77 ⟨x76, rfl, H⟩
                  refine ⟨_, rfl, ?_⟩
                  refine l_nil ?_
                  refine then_norm ?_
                  refine hK143 _ _ ?_
                  clear hK143
                  refine c_seq ?_
                  intro K147 hK147
                  refine c_region ?_
                  refine L_val (v := .slice none 0 0) (y_assign ev_c) ?_
                  refine l_nil ?_
                  refine then_norm ?_
                  refine hK147 _ _ ?_
                  clear hK147
                  refine c_seq ?_
                  intro K148 hK148
                  refine c_seq ?_
                  intro K149 hK149
                  refine c_region ?_
                  refine L_val (v := .int .i64 0) (y_assign ev_c) ?_
                  refine l_nil ?_
                  refine then_norm ?_
                  refine hK149 _ _ ?_
                  clear hK149
                  refine c_block ?_
                  obtain ⟨I150, ⟨m154, HI155⟩, H⟩ := H
                  refine loop_fr ([(15, 16), (98, 119)]) (fun m ff ww => ∃ (v79 : Option Addr) (v79l : Nat) (v79c : Nat) (v80 : Int), ff 15 = (.slice v79 v79l v79c : Value) ∧ ff 16 = (.int .i64 v80 : Value) ∧ I150 m v79 v79l v79c v80 ww) m154 ⟨none, 0, 0, 0, rfl, rfl, HI155⟩ ?_
                  rintro m81 f151 w82 hag152 ⟨v79, v79l, v79c, v80, hs156, hs157, HI153⟩
                  replace H := H m81 v79 v79l v79c v80 w82 HI153
                  refine c_seq ?_
                  intro K158 hK158
                  refine c_seq ?_
                  intro K159 hK159
                  refine c_region ?_
                  refine L_val (v := .int .i64 v80) (y_move (ev_tv rfl hs157)) ?_
                  refine L_val (v := .slice v66 v66l v66c) (y_move (ev_tv rfl ((hag152 13 rfl).trans hs131))) ?_
                  refine L_val (v := .int .i64 ((v66l : Nat) : Int)) (y_len Try.underlying23 rfl (map_ev1 (ev_tv rfl rfl))) ?_
                  refine L_val (v := .bool (decide ((v80 : Int) < ((v66l : Nat) : Int)))) (y_lss (ev_tv rfl rfl) (ev_tv rfl rfl)) ?_
                  refine l_nil ?_
                  refine then_norm ?_
                  refine hK159 _ _ ?_
                  clear hK159
                  rcases (Decidable.em ((v80 : Int) < ((v66l : Nat) : Int))) with hb160 | hb160
                  · replace H := H.1 hb160
                    have hq161 : Value.bool (decide ((v80 : Int) < ((v66l : Nat) : Int))) = Value.bool true := congrArg Value.bool (decide_eq_true hb160)
                    refine cond_t (ev_tv rfl hq161) ?_
                    refine c_skip ?_
                    refine then_norm ?_
                    refine hK158 _ _ ?_
                    clear hK158
                    refine c_seq ?_
                    intro K162 hK162
                    refine c_block ?_
                    refine c_seq ?_
                    intro K163 hK163
                    refine D_start Try.mixed rfl [] ?_
                    refine start_keep fun hS => ?_
                    refine D_pure (i := 0) (v := .slice v66 v66l v66c) rfl (by kernel_rfl) (W_none rfl) (fun _ => y_move (ev_tv rfl ((hag152 13 rfl).trans hs131))) hS ?_
                    intro hS
                    refine D_pure (i := 1) (v := .int .i64 v80) rfl (by kernel_rfl) (W_none rfl) (fun _ => y_move (ev_tv rfl hs157)) hS ?_
                    intro hS
                    obtain ⟨b83, o84, rfl, H⟩ := H
                    obtain ⟨hi164, hi165, H⟩ := H
                    refine D_pure (i := 2) (v := .pointer (some ⟨b83, o84 + (v80 : Int).toNat, none⟩)) rfl (by kernel_rfl) (W_none rfl) (fun _ => y_ix1 Try.underlying23 Try.type3 rfl (ev_tv rfl rfl) (ev_tv rfl rfl) hi164 hi165) hS ?_
                    intro hS
                    refine D_pure (i := 4) (v := .slice (some ⟨b73, o74, none⟩) a_order4l a_order4c) rfl (by kernel_rfl) (W_none rfl) (fun _ => y_move (ev_tv rfl ((hag152 3 rfl).trans ((hag127 3 rfl).trans ((hag16 3 rfl).trans rfl))))) hS ?_
                    intro hS
                    refine D_pure (i := 5) (v := .int .i64 v67) rfl (by kernel_rfl) (W_none rfl) (fun _ => y_move (ev_tv rfl ((hag152 14 rfl).trans hs132))) hS ?_
                    intro hS
                    obtain ⟨hi166, hi167, H⟩ := H
                    refine D_pure (i := 6) (v := .pointer (some ⟨b73, o74 + (v67 : Int).toNat, none⟩)) rfl (by kernel_rfl) (W_none rfl) (fun _ => y_ix1 Try.underlying23 Try.type3 rfl (ev_tv rfl rfl) (ev_tv rfl rfl) hi166 hi167) hS ?_
                    intro hS
                    obtain ⟨x85, hc168, H⟩ := H
                    refine D_read (i := 3) (v := .int .i64 x85) rfl (by kernel_rfl) (W_none rfl) (fun wx => World.cell? wx ⟨b83, o84 + (v80 : Int).toNat, none⟩ = some (.int .i64 x85)) hc168 (fun _ hcx => y_load Try.underlying3 rfl (ev_tv rfl rfl) hcx) hS ?_
                    intro hS
                    obtain ⟨x86, hc169, H⟩ := H
                    refine D_read (i := 7) (v := .int .i64 x86) rfl (by kernel_rfl) (W_none rfl) (fun wx => World.cell? wx ⟨b73, o74 + (v67 : Int).toNat, none⟩ = some (.int .i64 x86)) hc169 (fun _ hcx => y_load Try.underlying3 rfl (ev_tv rfl rfl) hcx) hS ?_
                    intro hS
                    refine D_pure (i := 8) (v := .bool (!decide ((x85 : Int) = x86))) rfl (by kernel_rfl) (W_none rfl) (fun _ => y_ine (ev_tv rfl rfl) (ev_tv rfl rfl)) hS ?_
                    intro hS
                    refine D_done (by kernel_rfl) ?_
                    refine then_norm ?_
                    refine hK163 _ _ ?_
                    clear hK163
                    rcases (Decidable.em ((x85 : Int) = x86)).symm with hb170 | hb170
                    · replace H := H.1 hb170
                      have hq171 : Value.bool (!decide ((x85 : Int) = x86)) = Value.bool true := congrArg Value.bool (ndec_t hb170)
                      refine cond_t (ev_tv rfl hq171) ?_
                      refine c_region ?_
                      refine L_val (v := .slice v79 v79l v79c) (y_move (ev_tv rfl hs156)) ?_
                      refine L_val (v := .slice (some ⟨b83, o84, none⟩) v66l v66c) (y_move (ev_tv rfl ((hag152 13 rfl).trans hs131))) ?_
                      refine L_val (v := .int .i64 v80) (y_move (ev_tv rfl hs157)) ?_
                      obtain ⟨hi172, hi173, H⟩ := H
                      refine L_val (v := .pointer (some ⟨b83, o84 + (v80 : Int).toNat, none⟩)) (y_ix1 Try.underlying23 Try.type3 rfl (ev_tv rfl rfl) (ev_tv rfl rfl) hi172 hi173) ?_
                      obtain ⟨x87, hc174, H⟩ := H
                      refine L_val (v := .int .i64 x87) (y_load Try.underlying3 rfl (ev_tv rfl rfl) hc174) ?_
                      obtain ⟨b88, hb175⟩ : ∃ b88 : Nat, b88 = World.heapSize (w82.drew) := ⟨_, rfl⟩
                      obtain ⟨w89, hw176⟩ : ∃ w89 : World, w89 = World.alloc (w82.drew) (.cells #[.int .i64 x87] 3) := ⟨_, rfl⟩
                      replace H := H b88 w89 hb175 hw176
                      refine L_val (v := .slice (some ⟨b88, 0, none⟩) 1 1) (y_buildSlice (parts_ev1 (ev_tv rfl rfl)) hb175 hw176 (by kernel_rfl)) ?_
                      obtain ⟨x91, x91l, x91c, w90, hc177, H⟩ := H
                      refine L_val (v := .slice x91 x91l x91c) (y_bi_append (map_ev2 (ev_tv rfl rfl) (ev_tv rfl rfl)) hc177) ?_
                      refine L_val (v := .slice x91 x91l x91c) (y_assign (ev_tv rfl rfl)) ?_
                      refine l_nil ?_
                      refine block_norm ?_
                      refine then_norm ?_
                      refine hK162 _ _ ?_
                      clear hK162
                      refine c_region ?_
                      refine L_val (v := .int .i64 v80) (y_move (ev_tv rfl hs157)) ?_
                      obtain ⟨r92, hr178⟩ : ∃ r92 : Int, r92 = IntKind.wrap .i64 (v80 + 1) := ⟨_, rfl⟩
                      replace H := H r92 hr178
                      refine L_val (v := .int .i64 r92) (y_add (ev_tv rfl rfl) ev_c hr178) ?_
                      refine L_val (v := .int .i64 r92) (y_assign (ev_tv rfl rfl)) ?_
                      refine l_nil ?_
                      refine then_norm ?_
                      obtain ⟨m93, hm179, H⟩ := H
                      exact ⟨_, rfl, (by repeat (first | exact agree_refl | exact hag152 | exact hag127 | exact hag16 | refine agree_upd rfl ?_ | refine agree_via hag152 rfl ?_ | refine agree_via hag127 rfl ?_ | refine agree_via hag16 rfl ?_)), m93, hm179, _, _, _, _, rfl, rfl, H⟩
                    · replace H := H.2 hb170
                      have hq171 : Value.bool (!decide ((x85 : Int) = x86)) = Value.bool false := congrArg Value.bool (ndec_f hb170)
                      refine cond_f (ev_tv rfl hq171) ?_
                      refine c_skip ?_
                      refine block_norm ?_
                      refine then_norm ?_
                      refine hK162 _ _ ?_
                      clear hK162
                      refine c_region ?_
                      refine L_val (v := .int .i64 v80) (y_move (ev_tv rfl hs157)) ?_
                      obtain ⟨r94, hr180⟩ : ∃ r94 : Int, r94 = IntKind.wrap .i64 (v80 + 1) := ⟨_, rfl⟩
                      replace H := H r94 hr180
                      refine L_val (v := .int .i64 r94) (y_add (ev_tv rfl rfl) ev_c hr180) ?_
                      refine L_val (v := .int .i64 r94) (y_assign (ev_tv rfl rfl)) ?_
                      refine l_nil ?_
                      refine then_norm ?_
                      obtain ⟨m95, hm181, H⟩ := H
                      exact ⟨_, rfl, (by repeat (first | exact agree_refl | exact hag152 | exact hag127 | exact hag16 | refine agree_upd rfl ?_ | refine agree_via hag152 rfl ?_ | refine agree_via hag127 rfl ?_ | refine agree_via hag16 rfl ?_)), m95, hm181, _, _, _, _, hs156, rfl, H⟩
                  · replace H := H.2 hb160
                    have hq161 : Value.bool (decide ((v80 : Int) < ((v66l : Nat) : Int))) = Value.bool false := congrArg Value.bool (decide_eq_false hb160)
                    refine cond_f (ev_tv rfl hq161) ?_
                    refine c_exit ?_
                    refine then_exit ?_
                    refine then_exit ?_
                    refine block_hit ?_
                    refine then_norm ?_
                    refine hK148 _ _ ?_
                    clear hK148
                    refine c_region ?_
                    refine L_val (v := .slice v79 v79l v79c) (y_move (ev_tv rfl hs156)) ?_
                    refine L_val (v := .slice v79 v79l v79c) (y_assign (ev_tv rfl rfl)) ?_
                    refine l_nil ?_
                    refine block_norm ?_
                    refine then_norm ?_
                    refine hK137 _ _ ?_
                    clear hK137
                    refine c_region ?_
                    refine L_val (v := .int .i64 v67) (y_move (ev_tv rfl ((hag152 14 rfl).trans hs132))) ?_
                    obtain ⟨r96, hr182⟩ : ∃ r96 : Int, r96 = IntKind.wrap .i64 (v67 + 1) := ⟨_, rfl⟩
                    replace H := H r96 hr182
                    refine L_val (v := .int .i64 r96) (y_add (ev_tv rfl rfl) ev_c hr182) ?_
                    refine L_val (v := .int .i64 r96) (y_assign (ev_tv rfl rfl)) ?_
                    refine l_nil ?_
                    refine then_norm ?_
                    obtain ⟨m97, hm183, H⟩ := H
                    exact ⟨_, rfl, (by repeat (first | exact agree_refl | exact hag152 | exact hag127 | exact hag16 | refine agree_upd rfl ?_ | refine agree_via hag152 rfl ?_ | refine agree_via hag127 rfl ?_ | refine agree_via hag16 rfl ?_)), m97, hm183, _, _, _, _, rfl, rfl, H⟩
              · replace H := H.2 hb135
                have hq136 : Value.bool (decide ((v67 : Int) < ((a_order4l : Nat) : Int))) = Value.bool false := congrArg Value.bool (decide_eq_false hb135)
                refine cond_f (ev_tv rfl hq136) ?_
                refine c_exit ?_
                refine then_exit ?_
                refine then_exit ?_
                refine block_hit ?_
                refine then_norm ?_
                exact hK36 _ _ (by repeat (first | exact agree_refl | exact hag127 | exact hag16 | refine agree_upd rfl ?_ | refine agree_via hag127 rfl ?_ | refine agree_via hag16 rfl ?_)) ⟨_, _, _, hs131, H⟩
            · clear H
              rintro f33 w25 hag34 ⟨v24, v24l, v24c, hs37, HJ35⟩
              have H := hJ32 v24 v24l v24c w25 HJ35
              clear hJ32
              refine c_seq ?_
              intro K38 hK38
              refine c_seq ?_
              intro K39 hK39
              refine c_region ?_
              refine L_val (v := .pointer x5) (y_move (ev_tv rfl ((hag34 9 rfl).trans ((hag16 9 rfl).trans rfl)))) ?_
              refine L_val (v := .int .i64 x13) (y_move (ev_tv rfl ((hag34 12 rfl).trans rfl))) ?_
              refine L_call (y_call Try.call12 (map_ev2 (ev_tv rfl rfl) (ev_tv rfl rfl)) ev_f) (Calls.mono H ?_)
              clear H
              rintro _ w27 ⟨x26, rfl, H⟩
              refine ⟨_, rfl, ?_⟩
              refine L_val (v := .slice v24 v24l v24c) (y_move (ev_tv rfl hs37)) ?_
              refine L_val (v := .int .i64 ((v24l : Nat) : Int)) (y_len Try.underlying23 rfl (map_ev1 (ev_tv rfl rfl))) ?_
              refine L_val (v := .bool (decide ((((v24l : Nat) : Int) : Int) = 0))) (y_ieq (ev_tv rfl rfl) ev_c) ?_
              refine L_val (v := .bool (!(x26 == (decide ((((v24l : Nat) : Int) : Int) = 0))))) (y_bne Try.underlying4 (ev_tv rfl rfl) (ev_tv rfl rfl)) ?_
              refine l_nil ?_
              refine then_norm ?_
              refine hK39 _ _ ?_
              clear hK39
              rcases Bool.eq_false_or_eq_true (!(x26 == (decide ((((v24l : Nat) : Int) : Int) = 0)))) with hb40 | hb40
              · replace H := H.1 hb40
                have hq41 : Value.bool (!(x26 == (decide ((((v24l : Nat) : Int) : Int) = 0)))) = Value.bool true := congrArg Value.bool hb40
                refine cond_t (ev_tv rfl hq41) ?_
                refine c_seq ?_
                intro K42 hK42
                refine c_region ?_
                refine L_val (v := .bool false) (y_assign ev_c) ?_
                refine l_nil ?_
                refine then_norm ?_
                refine hK42 _ _ ?_
                clear hK42
                refine c_ret ?_
                refine then_ret ?_
                exact body_1 rfl (ev_tv rfl rfl) H
              · replace H := H.2 hb40
                have hq41 : Value.bool (!(x26 == (decide ((((v24l : Nat) : Int) : Int) = 0)))) = Value.bool false := congrArg Value.bool hb40
                refine cond_f (ev_tv rfl hq41) ?_
                refine c_skip ?_
                refine then_norm ?_
                refine hK38 _ _ ?_
                clear hK38
                refine c_seq ?_
                intro K43 hK43
                refine c_seq ?_
                intro K44 hK44
                refine c_region ?_
                refine L_val (v := .int .i64 0) (y_assign ev_c) ?_
                refine l_nil ?_
                refine then_norm ?_
                refine hK44 _ _ ?_
                clear hK44
                refine c_block ?_
                obtain ⟨I45, ⟨m49, HI50⟩, H⟩ := H
                refine loop_fr ([(8, 8), (17, 21), (128, 174)]) (fun m ff ww => ∃ (v29 : Int), ff 17 = (.int .i64 v29 : Value) ∧ I45 m v29 ww) m49 ⟨0, rfl, HI50⟩ ?_
                rintro m30 f46 w31 hag47 ⟨v29, hs51, HI48⟩
                replace H := H m30 v29 w31 HI48
                refine c_seq ?_
                intro K52 hK52
                refine c_seq ?_
                intro K53 hK53
                refine c_region ?_
                refine L_val (v := .int .i64 v29) (y_move (ev_tv rfl hs51)) ?_
                refine L_val (v := .slice a_targets3 a_targets3l a_targets3c) (y_move (ev_tv rfl ((hag47 2 rfl).trans ((hag34 2 rfl).trans ((hag16 2 rfl).trans rfl))))) ?_
                refine L_val (v := .int .i64 ((a_targets3l : Nat) : Int)) (y_len Try.underlying23 rfl (map_ev1 (ev_tv rfl rfl))) ?_
                refine L_val (v := .bool (decide ((v29 : Int) < ((a_targets3l : Nat) : Int)))) (y_lss (ev_tv rfl rfl) (ev_tv rfl rfl)) ?_
                refine l_nil ?_
                refine then_norm ?_
                refine hK53 _ _ ?_
                clear hK53
                rcases (Decidable.em ((v29 : Int) < ((a_targets3l : Nat) : Int))) with hb54 | hb54
                · replace H := H.1 hb54
                  have hq55 : Value.bool (decide ((v29 : Int) < ((a_targets3l : Nat) : Int))) = Value.bool true := congrArg Value.bool (decide_eq_true hb54)
                  refine cond_t (ev_tv rfl hq55) ?_
                  refine c_skip ?_
                  refine then_norm ?_
                  refine hK52 _ _ ?_
                  clear hK52
                  refine c_seq ?_
                  intro K56 hK56
                  refine c_block ?_
                  refine c_seq ?_
                  intro K57 hK57
                  refine c_region ?_
                  refine L_val (v := .bool false) (y_assign ev_c) ?_
                  refine l_nil ?_
                  refine then_norm ?_
                  refine hK57 _ _ ?_
                  clear hK57
                  obtain ⟨J58, hJ59, H⟩ := H
                  refine c_seqJ [(18, 19), (134, 151)] (fun ff ww => ∃ (v32 : Bool), ff 18 = (.bool v32 : Value) ∧ J58 v32 ww) ?_ ?_
                  · clear hJ59
                    intro K63 hK63
                    refine c_seq ?_
                    intro K97 hK97
                    refine c_region ?_
                    refine L_val (v := .int .i64 0) (y_assign ev_c) ?_
                    refine l_nil ?_
                    refine then_norm ?_
                    refine hK97 _ _ ?_
                    clear hK97
                    refine c_block ?_
                    obtain ⟨I98, ⟨m102, HI103⟩, H⟩ := H
                    refine loop_fr ([(18, 19), (134, 151)]) (fun m ff ww => ∃ (v52 : Bool) (v53 : Int), ff 18 = (.bool v52 : Value) ∧ ff 19 = (.int .i64 v53 : Value) ∧ I98 m v52 v53 ww) m102 ⟨false, 0, rfl, rfl, HI103⟩ ?_
                    rintro m54 f99 w55 hag100 ⟨v52, v53, hs104, hs105, HI101⟩
                    replace H := H m54 v52 v53 w55 HI101
                    refine c_seq ?_
                    intro K106 hK106
                    refine c_seq ?_
                    intro K107 hK107
                    refine c_region ?_
                    refine L_val (v := .int .i64 v53) (y_move (ev_tv rfl hs105)) ?_
                    refine L_val (v := .slice v24 v24l v24c) (y_move (ev_tv rfl ((hag100 13 rfl).trans ((hag47 13 rfl).trans hs37)))) ?_
                    refine L_val (v := .int .i64 ((v24l : Nat) : Int)) (y_len Try.underlying23 rfl (map_ev1 (ev_tv rfl rfl))) ?_
                    refine L_val (v := .bool (decide ((v53 : Int) < ((v24l : Nat) : Int)))) (y_lss (ev_tv rfl rfl) (ev_tv rfl rfl)) ?_
                    refine l_nil ?_
                    refine then_norm ?_
                    refine hK107 _ _ ?_
                    clear hK107
                    rcases (Decidable.em ((v53 : Int) < ((v24l : Nat) : Int))) with hb108 | hb108
                    · replace H := H.1 hb108
                      have hq109 : Value.bool (decide ((v53 : Int) < ((v24l : Nat) : Int))) = Value.bool true := congrArg Value.bool (decide_eq_true hb108)
                      refine cond_t (ev_tv rfl hq109) ?_
                      refine c_skip ?_
                      refine then_norm ?_
                      refine hK106 _ _ ?_
                      clear hK106
                      refine c_seq ?_
                      intro K110 hK110
                      refine c_block ?_
                      refine D_start Try.mixed rfl [] ?_
                      refine start_keep fun hS => ?_
                      refine D_pure (i := 0) (v := .bool v52) rfl (by kernel_rfl) (W_none rfl) (fun _ => y_move (ev_tv rfl hs104)) hS ?_
                      intro hS
                      refine D_pure (i := 1) (v := .bool v52) rfl (by kernel_rfl) (W_none rfl) (fun _ => y_move (ev_tv rfl rfl)) hS ?_
                      intro hS
                      rcases Bool.eq_false_or_eq_true v52 with hb111 | hb111
                      · replace H := H.1 hb111
                        have hq112 : Value.bool (v52) = Value.bool true := congrArg Value.bool hb111
                        refine D_not (i := 2) rfl (by kernel_rfl) (W_no (dj := 141) (b' := true) rfl rfl rfl hq112 rfl) hS ?_
                        intro hS
                        refine D_not (i := 3) rfl (by kernel_rfl) (W_no (dj := 141) (b' := true) rfl rfl rfl hq112 rfl) hS ?_
                        intro hS
                        refine D_not (i := 4) rfl (by kernel_rfl) (W_no (dj := 141) (b' := true) rfl rfl rfl hq112 rfl) hS ?_
                        intro hS
                        refine D_not (i := 5) rfl (by kernel_rfl) (W_no (dj := 141) (b' := true) rfl rfl rfl hq112 rfl) hS ?_
                        intro hS
                        refine D_not (i := 6) rfl (by kernel_rfl) (W_no (dj := 141) (b' := true) rfl rfl rfl hq112 rfl) hS ?_
                        intro hS
                        refine D_not (i := 7) rfl (by kernel_rfl) (W_no (dj := 141) (b' := true) rfl rfl rfl hq112 rfl) hS ?_
                        intro hS
                        refine D_not (i := 8) rfl (by kernel_rfl) (W_no (dj := 141) (b' := true) rfl rfl rfl hq112 rfl) hS ?_
                        intro hS
                        refine D_not (i := 9) rfl (by kernel_rfl) (W_no (dj := 141) (b' := true) rfl rfl rfl hq112 rfl) hS ?_
                        intro hS
                        refine D_not (i := 10) rfl (by kernel_rfl) (W_no (dj := 141) (b' := true) rfl rfl rfl hq112 rfl) hS ?_
                        intro hS
                        refine D_pure (i := 11) (v := .bool true) rfl (by kernel_rfl) (W_none rfl) (fun _ => y_pick_t (ev_tv rfl hq112) ev_c) hS ?_
                        intro hS
                        refine D_pure (i := 12) (v := .bool true) rfl (by kernel_rfl) (W_none rfl) (fun _ => y_assign (ev_tv rfl rfl)) hS ?_
                        intro hS
                        refine D_done (by kernel_rfl) ?_
                        refine block_norm ?_
                        refine then_norm ?_
                        refine hK110 _ _ ?_
                        clear hK110
                        refine c_region ?_
                        refine L_val (v := .int .i64 v53) (y_move (ev_tv rfl hs105)) ?_
                        obtain ⟨r56, hr113⟩ : ∃ r56 : Int, r56 = IntKind.wrap .i64 (v53 + 1) := ⟨_, rfl⟩
                        replace H := H r56 hr113
                        refine L_val (v := .int .i64 r56) (y_add (ev_tv rfl rfl) ev_c hr113) ?_
                        refine L_val (v := .int .i64 r56) (y_assign (ev_tv rfl rfl)) ?_
                        refine l_nil ?_
                        refine then_norm ?_
                        obtain ⟨m57, hm114, H⟩ := H
                        exact ⟨_, rfl, (by repeat (first | exact agree_refl | exact hag100 | exact hag47 | exact hag34 | exact hag16 | refine agree_upd rfl ?_ | refine agree_via hag100 rfl ?_ | refine agree_via hag47 rfl ?_ | refine agree_via hag34 rfl ?_ | refine agree_via hag16 rfl ?_)), m57, hm114, _, _, rfl, rfl, H⟩
                      · replace H := H.2 hb111
                        have hq112 : Value.bool (v52) = Value.bool false := congrArg Value.bool hb111
                        refine D_pure (i := 2) (v := .slice v24 v24l v24c) rfl (by kernel_rfl) (W_yes (dj := 141) rfl rfl rfl hq112) (fun _ => y_move (ev_tv rfl ((hag100 13 rfl).trans ((hag47 13 rfl).trans hs37)))) hS ?_
                        intro hS
                        refine D_pure (i := 3) (v := .int .i64 v53) rfl (by kernel_rfl) (W_yes (dj := 141) rfl rfl rfl hq112) (fun _ => y_move (ev_tv rfl hs105)) hS ?_
                        intro hS
                        obtain ⟨b58, o59, rfl, H⟩ := H
                        obtain ⟨hi115, hi116, H⟩ := H
                        refine D_pure (i := 4) (v := .pointer (some ⟨b58, o59 + (v53 : Int).toNat, none⟩)) rfl (by kernel_rfl) (W_yes (dj := 141) rfl rfl rfl hq112) (fun _ => y_ix1 Try.underlying23 Try.type3 rfl (ev_tv rfl rfl) (ev_tv rfl rfl) hi115 hi116) hS ?_
                        intro hS
                        refine D_pure (i := 6) (v := .slice a_targets3 a_targets3l a_targets3c) rfl (by kernel_rfl) (W_yes (dj := 141) rfl rfl rfl hq112) (fun _ => y_move (ev_tv rfl ((hag100 2 rfl).trans ((hag47 2 rfl).trans ((hag34 2 rfl).trans ((hag16 2 rfl).trans rfl)))))) hS ?_
                        intro hS
                        refine D_pure (i := 7) (v := .int .i64 v29) rfl (by kernel_rfl) (W_yes (dj := 141) rfl rfl rfl hq112) (fun _ => y_move (ev_tv rfl ((hag100 17 rfl).trans hs51))) hS ?_
                        intro hS
                        obtain ⟨b60, o61, rfl, H⟩ := H
                        obtain ⟨hi117, hi118, H⟩ := H
                        refine D_pure (i := 8) (v := .pointer (some ⟨b60, o61 + (v29 : Int).toNat, none⟩)) rfl (by kernel_rfl) (W_yes (dj := 141) rfl rfl rfl hq112) (fun _ => y_ix1 Try.underlying23 Try.type3 rfl (ev_tv rfl rfl) (ev_tv rfl rfl) hi117 hi118) hS ?_
                        intro hS
                        obtain ⟨x62, hc119, H⟩ := H
                        refine D_read (i := 5) (v := .int .i64 x62) rfl (by kernel_rfl) (W_yes (dj := 141) rfl rfl rfl hq112) (fun wx => World.cell? wx ⟨b58, o59 + (v53 : Int).toNat, none⟩ = some (.int .i64 x62)) hc119 (fun _ hcx => y_load Try.underlying3 rfl (ev_tv rfl rfl) hcx) hS ?_
                        intro hS
                        obtain ⟨x63, hc120, H⟩ := H
                        refine D_read (i := 9) (v := .int .i64 x63) rfl (by kernel_rfl) (W_yes (dj := 141) rfl rfl rfl hq112) (fun wx => World.cell? wx ⟨b60, o61 + (v29 : Int).toNat, none⟩ = some (.int .i64 x63)) hc120 (fun _ hcx => y_load Try.underlying3 rfl (ev_tv rfl rfl) hcx) hS ?_
                        intro hS
                        refine D_pure (i := 10) (v := .bool (decide ((x62 : Int) = x63))) rfl (by kernel_rfl) (W_yes (dj := 141) rfl rfl rfl hq112) (fun _ => y_ieq (ev_tv rfl rfl) (ev_tv rfl rfl)) hS ?_
                        intro hS
                        refine D_pure (i := 11) (v := .bool (decide ((x62 : Int) = x63))) rfl (by kernel_rfl) (W_none rfl) (fun _ => y_pick_f (ev_tv rfl hq112) (ev_tv rfl rfl)) hS ?_
                        intro hS
                        refine D_pure (i := 12) (v := .bool (decide ((x62 : Int) = x63))) rfl (by kernel_rfl) (W_none rfl) (fun _ => y_assign (ev_tv rfl rfl)) hS ?_
                        intro hS
                        refine D_done (by kernel_rfl) ?_
                        refine block_norm ?_
                        refine then_norm ?_
                        refine hK110 _ _ ?_
                        clear hK110
                        refine c_region ?_
                        refine L_val (v := .int .i64 v53) (y_move (ev_tv rfl hs105)) ?_
                        obtain ⟨r64, hr121⟩ : ∃ r64 : Int, r64 = IntKind.wrap .i64 (v53 + 1) := ⟨_, rfl⟩
                        replace H := H r64 hr121
                        refine L_val (v := .int .i64 r64) (y_add (ev_tv rfl rfl) ev_c hr121) ?_
                        refine L_val (v := .int .i64 r64) (y_assign (ev_tv rfl rfl)) ?_
                        refine l_nil ?_
                        refine then_norm ?_
                        obtain ⟨m65, hm122, H⟩ := H
                        exact ⟨_, rfl, (by repeat (first | exact agree_refl | exact hag100 | exact hag47 | exact hag34 | exact hag16 | refine agree_upd rfl ?_ | refine agree_via hag100 rfl ?_ | refine agree_via hag47 rfl ?_ | refine agree_via hag34 rfl ?_ | refine agree_via hag16 rfl ?_)), m65, hm122, _, _, rfl, rfl, H⟩
                    · replace H := H.2 hb108
                      have hq109 : Value.bool (decide ((v53 : Int) < ((v24l : Nat) : Int))) = Value.bool false := congrArg Value.bool (decide_eq_false hb108)
                      refine cond_f (ev_tv rfl hq109) ?_
                      refine c_exit ?_
                      refine then_exit ?_
                      refine then_exit ?_
                      refine block_hit ?_
                      refine then_norm ?_
                      exact hK63 _ _ (by repeat (first | exact agree_refl | exact hag100 | exact hag47 | exact hag34 | exact hag16 | refine agree_upd rfl ?_ | refine agree_via hag100 rfl ?_ | refine agree_via hag47 rfl ?_ | refine agree_via hag34 rfl ?_ | refine agree_via hag16 rfl ?_)) ⟨_, hs104, H⟩
                  · clear H
                    rintro f60 w33 hag61 ⟨v32, hs64, HJ62⟩
                    have H := hJ59 v32 w33 HJ62
                    clear hJ59
                    refine c_seq ?_
                    intro K65 hK65
                    refine c_region ?_
                    refine L_val (v := .pointer x5) (y_move (ev_tv rfl ((hag61 9 rfl).trans ((hag47 9 rfl).trans ((hag34 9 rfl).trans ((hag16 9 rfl).trans rfl)))))) ?_
                    refine L_val (v := .slice a_targets3 a_targets3l a_targets3c) (y_move (ev_tv rfl ((hag61 2 rfl).trans ((hag47 2 rfl).trans ((hag34 2 rfl).trans ((hag16 2 rfl).trans rfl)))))) ?_
                    refine L_val (v := .int .i64 v29) (y_move (ev_tv rfl ((hag61 17 rfl).trans hs51))) ?_
                    obtain ⟨b34, o35, rfl, H⟩ := H
                    obtain ⟨hi66, hi67, H⟩ := H
                    refine L_val (v := .pointer (some ⟨b34, o35 + (v29 : Int).toNat, none⟩)) (y_ix1 Try.underlying23 Try.type3 rfl (ev_tv rfl rfl) (ev_tv rfl rfl) hi66 hi67) ?_
                    obtain ⟨x36, hc68, H⟩ := H
                    refine L_val (v := .int .i64 x36) (y_load Try.underlying3 rfl (ev_tv rfl rfl) hc68) ?_
                    refine L_call (y_call Try.call14 (map_ev2 (ev_tv rfl rfl) (ev_tv rfl rfl)) ev_f) (Calls.mono H ?_)
                    clear H
                    rintro _ w38 ⟨x37, x37l, x37c, rfl, H⟩
                    refine ⟨_, rfl, ?_⟩
                    refine L_val (v := .slice x37 x37l x37c) (y_assign (ev_tv rfl rfl)) ?_
                    refine l_nil ?_
                    refine then_norm ?_
                    refine hK65 _ _ ?_
                    clear hK65
                    refine c_seq ?_
                    intro K69 hK69
                    refine c_region ?_
                    refine L_val (v := .int .i64 0) (y_assign ev_c) ?_
                    refine l_nil ?_
                    refine then_norm ?_
                    refine hK69 _ _ ?_
                    clear hK69
                    refine c_block ?_
                    obtain ⟨I70, ⟨m74, HI75⟩, H⟩ := H
                    refine loop_fr ([(8, 8), (21, 21), (158, 174)]) (fun m ff ww => ∃ (v40 : Int), ff 21 = (.int .i64 v40 : Value) ∧ I70 m v40 ww) m74 ⟨0, rfl, HI75⟩ ?_
                    rintro m41 f71 w42 hag72 ⟨v40, hs76, HI73⟩
                    replace H := H m41 v40 w42 HI73
                    refine c_seq ?_
                    intro K77 hK77
                    refine c_seq ?_
                    intro K78 hK78
                    refine c_region ?_
                    refine L_val (v := .int .i64 v40) (y_move (ev_tv rfl hs76)) ?_
                    refine L_val (v := .slice x37 x37l x37c) (y_move (ev_tv rfl ((hag72 20 rfl).trans rfl))) ?_
                    refine L_val (v := .int .i64 ((x37l : Nat) : Int)) (y_len Try.underlying40 rfl (map_ev1 (ev_tv rfl rfl))) ?_
                    refine L_val (v := .bool (decide ((v40 : Int) < ((x37l : Nat) : Int)))) (y_lss (ev_tv rfl rfl) (ev_tv rfl rfl)) ?_
                    refine L_val (v := .bool (decide ((v40 : Int) < ((x37l : Nat) : Int)))) (y_move (ev_tv rfl rfl)) ?_
                    rcases (Decidable.em ((v40 : Int) < ((x37l : Nat) : Int))) with hb79 | hb79
                    · replace H := H.1 hb79
                      have hq80 : Value.bool (decide ((v40 : Int) < ((x37l : Nat) : Int))) = Value.bool true := congrArg Value.bool (decide_eq_true hb79)
                      refine G_val (dj := 162) rfl rfl hq80 (v := .bool v32) (y_move (ev_tv rfl ((hag72 18 rfl).trans hs64))) ?_
                      rcases Bool.eq_false_or_eq_true v32 with hb81 | hb81
                      · replace H := H.1 hb81
                        have hq82 : Value.bool (v32) = Value.bool true := congrArg Value.bool hb81
                        refine G_val (dj := 162) rfl rfl hq80 (v := .bool false) (y_not_t (ev_tv rfl hq82)) ?_
                        refine L_val (v := .bool false) (y_pick_t (ev_tv rfl hq80) (ev_tv rfl rfl)) ?_
                        refine l_nil ?_
                        refine then_norm ?_
                        refine hK78 _ _ ?_
                        clear hK78
                        refine cond_f (ev_tv rfl rfl) ?_
                        refine c_exit ?_
                        refine then_exit ?_
                        refine then_exit ?_
                        refine block_hit ?_
                        refine block_norm ?_
                        refine then_norm ?_
                        refine hK56 _ _ ?_
                        clear hK56
                        refine c_region ?_
                        refine L_val (v := .int .i64 v29) (y_move (ev_tv rfl ((hag72 17 rfl).trans ((hag61 17 rfl).trans hs51)))) ?_
                        obtain ⟨r43, hr83⟩ : ∃ r43 : Int, r43 = IntKind.wrap .i64 (v29 + 1) := ⟨_, rfl⟩
                        replace H := H r43 hr83
                        refine L_val (v := .int .i64 r43) (y_add (ev_tv rfl rfl) ev_c hr83) ?_
                        refine L_val (v := .int .i64 r43) (y_assign (ev_tv rfl rfl)) ?_
                        refine l_nil ?_
                        refine then_norm ?_
                        obtain ⟨m44, hm84, H⟩ := H
                        exact ⟨_, rfl, (by repeat (first | exact agree_refl | exact hag72 | exact hag61 | exact hag47 | exact hag34 | exact hag16 | refine agree_upd rfl ?_ | refine agree_via hag72 rfl ?_ | refine agree_via hag61 rfl ?_ | refine agree_via hag47 rfl ?_ | refine agree_via hag34 rfl ?_ | refine agree_via hag16 rfl ?_)), m44, hm84, _, rfl, H⟩
                      · replace H := H.2 hb81
                        have hq82 : Value.bool (v32) = Value.bool false := congrArg Value.bool hb81
                        refine G_val (dj := 162) rfl rfl hq80 (v := .bool true) (y_not_f (ev_tv rfl hq82)) ?_
                        refine L_val (v := .bool true) (y_pick_t (ev_tv rfl hq80) (ev_tv rfl rfl)) ?_
                        refine l_nil ?_
                        refine then_norm ?_
                        refine hK78 _ _ ?_
                        clear hK78
                        refine cond_t (ev_tv rfl rfl) ?_
                        refine c_skip ?_
                        refine then_norm ?_
                        refine hK77 _ _ ?_
                        clear hK77
                        refine c_seq ?_
                        intro K85 hK85
                        refine c_block ?_
                        refine c_seq ?_
                        intro K86 hK86
                        refine c_region ?_
                        refine L_val (v := .slice x37 x37l x37c) (y_move (ev_tv rfl ((hag72 20 rfl).trans rfl))) ?_
                        refine L_val (v := .int .i64 v40) (y_move (ev_tv rfl hs76)) ?_
                        obtain ⟨b45, o46, rfl, H⟩ := H
                        obtain ⟨hi87, hi88, H⟩ := H
                        refine L_val (v := .pointer (some ⟨b45, o46 + (v40 : Int).toNat * 2, none⟩)) (y_ix Try.underlying40 Try.type31 rfl (ev_tv rfl rfl) (ev_tv rfl rfl) hi87 hi88) ?_
                        refine L_val (v := .pointer (some ⟨b45, o46 + (v40 : Int).toNat * 2, none⟩)) (Try.fa31_0 (ev_tv rfl rfl)) ?_
                        obtain ⟨x47, hc89, H⟩ := H
                        refine L_val (v := .int .i64 x47) (y_load Try.underlying3 rfl (ev_tv rfl rfl) hc89) ?_
                        refine L_val (v := .int .i64 a_space2) (y_move (ev_tv rfl ((hag72 1 rfl).trans ((hag61 1 rfl).trans ((hag47 1 rfl).trans ((hag34 1 rfl).trans ((hag16 1 rfl).trans rfl))))))) ?_
                        refine L_val (v := .bool (decide ((x47 : Int) = a_space2))) (y_ieq (ev_tv rfl rfl) (ev_tv rfl rfl)) ?_
                        refine l_nil ?_
                        refine then_norm ?_
                        refine hK86 _ _ ?_
                        clear hK86
                        rcases (Decidable.em ((x47 : Int) = a_space2)) with hb90 | hb90
                        · replace H := H.1 hb90
                          have hq91 : Value.bool (decide ((x47 : Int) = a_space2)) = Value.bool true := congrArg Value.bool (decide_eq_true hb90)
                          refine cond_t (ev_tv rfl hq91) ?_
                          refine c_seq ?_
                          intro K92 hK92
                          refine c_region ?_
                          refine L_val (v := .bool false) (y_assign ev_c) ?_
                          refine l_nil ?_
                          refine then_norm ?_
                          refine hK92 _ _ ?_
                          clear hK92
                          refine c_ret ?_
                          refine block_ret ?_
                          refine then_ret ?_
                          refine then_ret ?_
                          refine block_ret ?_
                          refine block_ret ?_
                          refine then_ret ?_
                          refine then_ret ?_
                          refine block_ret ?_
                          refine then_ret ?_
                          exact body_1 rfl (ev_tv rfl rfl) H
                        · replace H := H.2 hb90
                          have hq91 : Value.bool (decide ((x47 : Int) = a_space2)) = Value.bool false := congrArg Value.bool (decide_eq_false hb90)
                          refine cond_f (ev_tv rfl hq91) ?_
                          refine c_skip ?_
                          refine block_norm ?_
                          refine then_norm ?_
                          refine hK85 _ _ ?_
                          clear hK85
                          refine c_region ?_
                          refine L_val (v := .int .i64 v40) (y_move (ev_tv rfl hs76)) ?_
                          obtain ⟨r48, hr93⟩ : ∃ r48 : Int, r48 = IntKind.wrap .i64 (v40 + 1) := ⟨_, rfl⟩
                          replace H := H r48 hr93
                          refine L_val (v := .int .i64 r48) (y_add (ev_tv rfl rfl) ev_c hr93) ?_
                          refine L_val (v := .int .i64 r48) (y_assign (ev_tv rfl rfl)) ?_
                          refine l_nil ?_
                          refine then_norm ?_
                          obtain ⟨m49, hm94, H⟩ := H
                          exact ⟨_, rfl, (by repeat (first | exact agree_refl | exact hag72 | exact hag61 | exact hag47 | exact hag34 | exact hag16 | refine agree_upd rfl ?_ | refine agree_via hag72 rfl ?_ | refine agree_via hag61 rfl ?_ | refine agree_via hag47 rfl ?_ | refine agree_via hag34 rfl ?_ | refine agree_via hag16 rfl ?_)), m49, hm94, _, rfl, H⟩
                    · replace H := H.2 hb79
                      have hq80 : Value.bool (decide ((v40 : Int) < ((x37l : Nat) : Int))) = Value.bool false := congrArg Value.bool (decide_eq_false hb79)
                      refine G_not (b' := false) (dj := 162) rfl rfl hq80 rfl ?_
                      refine G_not (b' := false) (dj := 162) rfl rfl hq80 rfl ?_
                      refine L_val (v := .bool false) (y_pick_f (ev_tv rfl hq80) ev_c) ?_
                      refine l_nil ?_
                      refine then_norm ?_
                      refine hK78 _ _ ?_
                      clear hK78
                      refine cond_f (ev_tv rfl rfl) ?_
                      refine c_exit ?_
                      refine then_exit ?_
                      refine then_exit ?_
                      refine block_hit ?_
                      refine block_norm ?_
                      refine then_norm ?_
                      refine hK56 _ _ ?_
                      clear hK56
                      refine c_region ?_
                      refine L_val (v := .int .i64 v29) (y_move (ev_tv rfl ((hag72 17 rfl).trans ((hag61 17 rfl).trans hs51)))) ?_
                      obtain ⟨r50, hr95⟩ : ∃ r50 : Int, r50 = IntKind.wrap .i64 (v29 + 1) := ⟨_, rfl⟩
                      replace H := H r50 hr95
                      refine L_val (v := .int .i64 r50) (y_add (ev_tv rfl rfl) ev_c hr95) ?_
                      refine L_val (v := .int .i64 r50) (y_assign (ev_tv rfl rfl)) ?_
                      refine l_nil ?_
                      refine then_norm ?_
                      obtain ⟨m51, hm96, H⟩ := H
                      exact ⟨_, rfl, (by repeat (first | exact agree_refl | exact hag72 | exact hag61 | exact hag47 | exact hag34 | exact hag16 | refine agree_upd rfl ?_ | refine agree_via hag72 rfl ?_ | refine agree_via hag61 rfl ?_ | refine agree_via hag47 rfl ?_ | refine agree_via hag34 rfl ?_ | refine agree_via hag16 rfl ?_)), m51, hm96, _, rfl, H⟩
                · replace H := H.2 hb54
                  have hq55 : Value.bool (decide ((v29 : Int) < ((a_targets3l : Nat) : Int))) = Value.bool false := congrArg Value.bool (decide_eq_false hb54)
                  refine cond_f (ev_tv rfl hq55) ?_
                  refine c_exit ?_
                  refine then_exit ?_
                  refine then_exit ?_
                  refine block_hit ?_
                  refine then_norm ?_
                  refine hK43 _ _ ?_
                  clear hK43
                  refine c_seq ?_
                  intro K123 hK123
                  refine c_region ?_
                  refine L_val (v := .bool true) (y_assign ev_c) ?_
                  refine l_nil ?_
                  refine then_norm ?_
                  refine hK123 _ _ ?_
                  clear hK123
                  refine c_ret ?_
                  exact body_1 rfl (ev_tv rfl rfl) H
      · replace H := H.2 hb11
        have hq12 : Value.bool (x9) = Value.bool false := congrArg Value.bool hb11
        refine G_val (dj := 32) rfl rfl hq9 (v := .bool true) (y_not_f (ev_tv rfl hq12)) ?_
        refine L_val (v := .bool true) (y_pick_f (ev_tv rfl hq9) (ev_tv rfl rfl)) ?_
        refine l_nil ?_
        refine then_norm ?_
        refine hK4 _ _ ?_
        clear hK4
        refine cond_t (ev_tv rfl rfl) ?_
        refine c_seq ?_
        intro K208 hK208
        refine c_region ?_
        refine L_val (v := .bool false) (y_assign ev_c) ?_
        refine l_nil ?_
        refine then_norm ?_
        refine hK208 _ _ ?_
        clear hK208
        refine c_ret ?_
        refine then_ret ?_
        exact body_1 rfl (ev_tv rfl rfl) H

/-- parapet/parapetlaw07.TlbApart -/
def Vc4 (a_l1 : Option Addr) (a_l1l : Nat) (a_l1c : Nat) (a_hart2 : Int) (w : World) (R : Ending → World → Prop) : Prop :=
  (Calls Try.prog 7 #[.int .i64 3, .int .i64 4] w fun e w5 => ∃ x3 : Option Addr, ∃ x4 : Int, e = .returned (.tuple #[.pointer x3, .int .i64 x4]) ∧ (Calls Try.prog 7 #[.int .i64 3, .int .i64 4] w5 fun e w9 => ∃ x7 : Option Addr, ∃ x8 : Int, e = .returned (.tuple #[.pointer x7, .int .i64 x8]) ∧ (((¬ ((x4 : Int) = 0)) → R (.returned (.bool false)) w9) ∧ (((x4 : Int) = 0) → (((¬ ((x8 : Int) = 0)) → R (.returned (.bool false)) w9) ∧ (((x8 : Int) = 0) → (((x3 = none) → R (.returned (.bool false)) w9) ∧ ((x3 ≠ none) → (((x7 = none) → R (.returned (.bool false)) w9) ∧ ((x7 ≠ none) → (Calls Try.prog 8 #[] w9 fun e w12 => ∃ x11 : Bool, e = .returned (.bool x11) ∧ (((x11 = true) → (∃ J20 : World → Prop, (∀  (w14 : World), J20  w14 → (Calls Try.prog 14 #[.pointer x3, .int .i64 a_hart2] w14 fun e w16 => ∃ x15 : Option Addr, ∃ x15l : Nat, ∃ x15c : Nat, e = .returned (.slice x15 x15l x15c) ∧ (Calls Try.prog 14 #[.pointer x7, .int .i64 a_hart2] w16 fun e w19 => ∃ x18 : Option Addr, ∃ x18l : Nat, ∃ x18c : Nat, e = .returned (.slice x18 x18l x18c) ∧ (((¬ ((((x15l : Nat) : Int) : Int) = ((x18l : Nat) : Int))) → R (.returned (.bool false)) w19) ∧ (((((x15l : Nat) : Int) : Int) = ((x18l : Nat) : Int)) → (∃ I34 : Nat → Int → World → Prop, (∃ m, I34 m 0 w19) ∧ ∀ (m22 : Nat) (v21 : Int) (w23 : World), I34 m22 v21 w23 → ((((v21 : Int) < ((x15l : Nat) : Int)) → (∃ (b24 o25 : Nat), x15 = some ⟨b24, o25, none⟩ ∧ ((0 : Int) ≤ v21 ∧ v21 < ((x15l : Nat) : Int) ∧ (∃ x26 : Int, ∃ x27 : Int, CellsAt w23 ⟨b24, o25 + (v21 : Int).toNat * 2, none⟩ [.int .i64 x26, .int .i64 x27] ∧ (Calls Try.prog 16 #[.pointer x3, .int .i64 a_hart2, .agg #[.int .i64 x26, .int .i64 x27]] w23 fun e w30 => ∃ x28 : Int, ∃ x29 : Bool, e = .returned (.tuple #[.int .u32 x28, .bool x29]) ∧ (∃ (b32 o33 : Nat), x18 = some ⟨b32, o33, none⟩ ∧ ((0 : Int) ≤ v21 ∧ v21 < ((x18l : Nat) : Int) ∧ (∃ x34 : Int, ∃ x35 : Int, CellsAt w30 ⟨b32, o33 + (v21 : Int).toNat * 2, none⟩ [.int .i64 x34, .int .i64 x35] ∧ (Calls Try.prog 16 #[.pointer x7, .int .i64 a_hart2, .agg #[.int .i64 x34, .int .i64 x35]] w30 fun e w38 => ∃ x36 : Int, ∃ x37 : Bool, e = .returned (.tuple #[.int .u32 x36, .bool x37]) ∧ ((0 : Int) ≤ v21 ∧ v21 < ((x15l : Nat) : Int) ∧ ((0 : Int) ≤ v21 ∧ v21 < ((x18l : Nat) : Int) ∧ (∃ x40 : Int, ∃ x41 : Int, CellsAt (w38.drew) ⟨b24, o25 + (v21 : Int).toNat * 2, none⟩ [.int .i64 x40, .int .i64 x41] ∧ (∃ x42 : Int, ∃ x43 : Int, CellsAt (w38.drew) ⟨b32, o33 + (v21 : Int).toNat * 2, none⟩ [.int .i64 x42, .int .i64 x43] ∧ (∃ q44 : Bool, (∀ w' : World, (eqGuard .neq 31 (.tmp 138) (.tmp 142) (.agg #[.int .i64 x40, .int .i64 x41]) (.agg #[.int .i64 x42, .int .i64 x43])).run Try.prog w' = .ok () w') ∧ (∀ w' : World, (binOp .neq 31 (.agg #[.int .i64 x40, .int .i64 x41]) (.agg #[.int .i64 x42, .int .i64 x43])).run Try.prog w' = .ok (.bool q44) w') ∧ (((q44 = true) → R (.returned (.bool false)) (w38.drew)) ∧ ((q44 = false) → (((¬ ((x28 : Int) = x36)) → R (.returned (.bool false)) (w38.drew)) ∧ (((x28 : Int) = x36) → (((x29 = true) → (((x37 = true) → (∀ r45 : Int, r45 = IntKind.wrap .i64 (v21 + 1) → (∃ m46, m46 < m22 ∧ I34 m46 r45 (w38.drew)))) ∧ ((x37 = false) → R (.returned (.bool false)) (w38.drew)))) ∧ ((x29 = false) → R (.returned (.bool false)) (w38.drew))))))))))))))))))))) ∧ ((¬ ((v21 : Int) < ((x15l : Nat) : Int))) → R (.returned (.bool true)) w23)))))))) ∧ (∃ I79 : Nat → Int → World → Prop, (∃ m, I79 m 0 w12) ∧ ∀ (m48 : Nat) (v47 : Int) (w49 : World), I79 m48 v47 w49 → ((((v47 : Int) < ((a_l1l : Nat) : Int)) → (∃ (b50 o51 : Nat), a_l1 = some ⟨b50, o51, none⟩ ∧ ((0 : Int) ≤ v47 ∧ v47 < ((a_l1l : Nat) : Int) ∧ (∃ x52 : Int, ∃ x53 : Int, ∃ x54 : Int, ∃ x55 : Int, ∃ x56 : Int, ∃ x57 : Int, ∃ x58 : Option Addr, ∃ x58l : Nat, ∃ x58c : Nat, CellsAt w49 ⟨b50, o51 + (v47 : Int).toNat * 7, none⟩ [.int .i64 x52, .int .i64 x53, .int .i64 x54, .int .i64 x55, .int .u32 x56, .int .i64 x57, .slice x58 x58l x58c] ∧ (∀ (b59 : Nat) (w60 : World), b59 = World.heapSize w49 → w60 = World.alloc w49 (.cells #[.int .i64 0, .int .i64 0, .int .i64 0, .int .i64 0, .int .u32 0, .int .i64 0, .slice none 0 0] 34) → ((∀ j, j < 7 → (World.cell? w60 (Addr.add ⟨b59, 0, none⟩ j)).isSome = true ∧ World.frozen? w60 (Addr.add ⟨b59, 0, none⟩ j) = false) ∧ ∀ w61 : World, w61 = putCells w60 ⟨b59, 0, none⟩ [.int .i64 x52, .int .i64 x53, .int .i64 x54, .int .i64 x55, .int .u32 x56, .int .i64 x57, .slice x58 x58l x58c] 0 → (∃ J100 : World → Prop, (∀  (w62 : World), J100  w62 → (∃ x63 : Int, World.cell? w62 ⟨b59, 0, none⟩ = some (.int .i64 x63) ∧ ((((x63 : Int) = 3) → (∃ x64 : Int, World.cell? w62 ⟨b59, 0 + 1, none⟩ = some (.int .i64 x64) ∧ (∃ x65 : Int, World.cell? w62 ⟨b59, 0 + 2, none⟩ = some (.int .i64 x65) ∧ (Calls Try.prog 15 #[.pointer x3, .int .i64 x64, .int .i64 x65] w62 fun e w67 => ∃ x66 : Int, e = .returned (.int .i64 x66) ∧ (∃ x69 : Int, World.cell? w67 ⟨b59, 0 + 1, none⟩ = some (.int .i64 x69) ∧ ((((x69 : Int) = a_hart2) → (∃ x70 : Int, World.cell? w67 ⟨b59, 0 + 1, none⟩ = some (.int .i64 x70) ∧ (∃ x71 : Int, World.cell? w67 ⟨b59, 0 + 2, none⟩ = some (.int .i64 x71) ∧ (Calls Try.prog 15 #[.pointer x7, .int .i64 x70, .int .i64 x71] w67 fun e w73 => ∃ x72 : Int, e = .returned (.int .i64 x72) ∧ (∀ r75 : Int, r75 = IntKind.wrap .i64 (v47 + 1) → (∃ m76, m76 < m48 ∧ I79 m76 r75 w73)))))) ∧ ((¬ ((x69 : Int) = a_hart2)) → (∀ r77 : Int, r77 = IntKind.wrap .i64 (v47 + 1) → (∃ m78, m78 < m48 ∧ I79 m78 r77 w67))))))))) ∧ ((¬ ((x63 : Int) = 3)) → (∀ r79 : Int, r79 = IntKind.wrap .i64 (v47 + 1) → (∃ m80, m80 < m48 ∧ I79 m80 r79 w62)))))) ∧ (∃ x81 : Int, World.cell? w61 ⟨b59, 0, none⟩ = some (.int .i64 x81) ∧ ((((x81 : Int) = 2) → (∃ x82 : Int, World.cell? w61 ⟨b59, 0 + 1, none⟩ = some (.int .i64 x82) ∧ (∃ x83 : Int, ∃ x84 : Int, CellsAt w61 ⟨b59, 0 + 2, none⟩ [.int .i64 x83, .int .i64 x84] ∧ (∃ x85 : Int, World.cell? w61 ⟨b59, 0 + 4, none⟩ = some (.int .u32 x85) ∧ (Calls Try.prog 9 #[.pointer x3, .int .i64 x82, .agg #[.int .i64 x83, .int .i64 x84], .int .u32 x85] w61 fun e w87 => ∃ x86 : Int, e = .returned (.int .i64 x86) ∧ (∃ x89 : Int, World.cell? w87 ⟨b59, 0 + 1, none⟩ = some (.int .i64 x89) ∧ ((((x89 : Int) = a_hart2) → (∃ x90 : Int, World.cell? w87 ⟨b59, 0 + 1, none⟩ = some (.int .i64 x90) ∧ (∃ x91 : Int, ∃ x92 : Int, CellsAt w87 ⟨b59, 0 + 2, none⟩ [.int .i64 x91, .int .i64 x92] ∧ (∃ x93 : Int, World.cell? w87 ⟨b59, 0 + 4, none⟩ = some (.int .u32 x93) ∧ (Calls Try.prog 9 #[.pointer x7, .int .i64 x90, .agg #[.int .i64 x91, .int .i64 x92], .int .u32 x93] w87 fun e w95 => ∃ x94 : Int, e = .returned (.int .i64 x94) ∧ J100  w95))))) ∧ ((¬ ((x89 : Int) = a_hart2)) → J100  w87)))))))) ∧ ((¬ ((x81 : Int) = 2)) → J100  w61)))))))))) ∧ ((¬ ((v47 : Int) < ((a_l1l : Nat) : Int))) → J20  w49))))) ∧ ((x11 = false) → R (.returned (.bool false)) w12)))))))))))))

theorem vc4 {a_l1 : Option Addr} {a_l1l : Nat} {a_l1c : Nat} {a_hart2 : Int} {w : World} {R : Ending → World → Prop} (H : Vc4 a_l1 a_l1l a_l1c a_hart2 w R) : Calls Try.prog 4 #[.slice a_l1 a_l1l a_l1c, .int .i64 a_hart2] w R := by
  unfold Vc4 at H
  refine calls_start [.slice a_l1 a_l1l a_l1c, .int .i64 a_hart2] Try.func4 rfl Try.ntmps4 rfl ?_
  refine c_seq ?_
  intro K1 hK1
  refine c_region ?_
  refine L_val (v := .bool false) (y_assign ev_c) ?_
  refine l_nil ?_
  refine then_norm ?_
  refine hK1 _ _ ?_
  clear hK1
  refine c_seq ?_
  intro K2 hK2
  refine c_region ?_
  refine L_call (y_call Try.call7 (map_ev2 ev_c ev_c) ev_f) (Calls.mono H ?_)
  clear H
  rintro _ w5 ⟨x3, x4, rfl, H⟩
  refine ⟨_, rfl, ?_⟩
  refine L_val (v := .tuple #[.pointer x3, .int .i64 x4]) (y_move (ev_tv rfl rfl)) ?_
  refine L_val (v := .pointer x3) (y_extract (ev_tv rfl rfl) rfl) ?_
  refine L_val (v := .int .i64 x4) (y_extract (ev_tv rfl rfl) rfl) ?_
  refine L_val (v := .pointer x3) (y_assign (ev_tv rfl rfl)) ?_
  refine L_val (v := .int .i64 x4) (y_assign (ev_tv rfl rfl)) ?_
  refine l_nil ?_
  refine then_norm ?_
  refine hK2 _ _ ?_
  clear hK2
  refine c_seq ?_
  intro K3 hK3
  refine c_region ?_
  refine L_call (y_call Try.call7 (map_ev2 ev_c ev_c) ev_f) (Calls.mono H ?_)
  clear H
  rintro _ w9 ⟨x7, x8, rfl, H⟩
  refine ⟨_, rfl, ?_⟩
  refine L_val (v := .tuple #[.pointer x7, .int .i64 x8]) (y_move (ev_tv rfl rfl)) ?_
  refine L_val (v := .pointer x7) (y_extract (ev_tv rfl rfl) rfl) ?_
  refine L_val (v := .int .i64 x8) (y_extract (ev_tv rfl rfl) rfl) ?_
  refine L_val (v := .pointer x7) (y_assign (ev_tv rfl rfl)) ?_
  refine L_val (v := .int .i64 x8) (y_assign (ev_tv rfl rfl)) ?_
  refine l_nil ?_
  refine then_norm ?_
  refine hK3 _ _ ?_
  clear hK3
  refine c_seq ?_
  intro K4 hK4
  refine c_seq ?_
  intro K5 hK5
  refine c_region ?_
  refine L_val (v := .int .i64 x4) (y_move (ev_tv rfl rfl)) ?_
  refine L_val (v := .bool (!decide ((x4 : Int) = 0))) (y_ine (ev_tv rfl rfl) ev_c) ?_
  refine L_val (v := .bool (!decide ((x4 : Int) = 0))) (y_move (ev_tv rfl rfl)) ?_
  rcases (Decidable.em ((x4 : Int) = 0)).symm with hb6 | hb6
  · replace H := H.1 hb6
    have hq7 : Value.bool (!decide ((x4 : Int) = 0)) = Value.bool true := congrArg Value.bool (ndec_t hb6)
    refine G_not (b' := true) (dj := 28) rfl rfl hq7 rfl ?_
    refine G_not (b' := true) (dj := 28) rfl rfl hq7 rfl ?_
    refine L_val (v := .bool true) (y_pick_t (ev_tv rfl hq7) ev_c) ?_
    refine L_val (v := .bool true) (y_move (ev_tv rfl rfl)) ?_
    refine G_not (b' := true) (dj := 32) rfl rfl rfl rfl ?_
    refine G_not (b' := true) (dj := 32) rfl rfl rfl rfl ?_
    refine L_val (v := .bool true) (y_pick_t (ev_tv rfl rfl) ev_c) ?_
    refine L_val (v := .bool true) (y_move (ev_tv rfl rfl)) ?_
    refine G_not (b' := true) (dj := 36) rfl rfl rfl rfl ?_
    refine G_not (b' := true) (dj := 36) rfl rfl rfl rfl ?_
    refine L_val (v := .bool true) (y_pick_t (ev_tv rfl rfl) ev_c) ?_
    refine L_val (v := .bool true) (y_move (ev_tv rfl rfl)) ?_
    refine G_not (b' := true) (dj := 40) rfl rfl rfl rfl ?_
    refine G_not (b' := true) (dj := 40) rfl rfl rfl rfl ?_
    refine L_val (v := .bool true) (y_pick_t (ev_tv rfl rfl) ev_c) ?_
    refine l_nil ?_
    refine then_norm ?_
    refine hK5 _ _ ?_
    clear hK5
    refine cond_t (ev_tv rfl rfl) ?_
    refine c_seq ?_
    intro K8 hK8
    refine c_region ?_
    refine L_val (v := .bool false) (y_assign ev_c) ?_
    refine l_nil ?_
    refine then_norm ?_
    refine hK8 _ _ ?_
    clear hK8
    refine c_ret ?_
    refine then_ret ?_
    exact body_1 rfl (ev_tv rfl rfl) H
  · replace H := H.2 hb6
    have hq7 : Value.bool (!decide ((x4 : Int) = 0)) = Value.bool false := congrArg Value.bool (ndec_f hb6)
    refine G_val (dj := 28) rfl rfl hq7 (v := .int .i64 x8) (y_move (ev_tv rfl rfl)) ?_
    refine G_val (dj := 28) rfl rfl hq7 (v := .bool (!decide ((x8 : Int) = 0))) (y_ine (ev_tv rfl rfl) ev_c) ?_
    refine L_val (v := .bool (!decide ((x8 : Int) = 0))) (y_pick_f (ev_tv rfl hq7) (ev_tv rfl rfl)) ?_
    refine L_val (v := .bool (!decide ((x8 : Int) = 0))) (y_move (ev_tv rfl rfl)) ?_
    rcases (Decidable.em ((x8 : Int) = 0)).symm with hb9 | hb9
    · replace H := H.1 hb9
      have hq10 : Value.bool (!decide ((x8 : Int) = 0)) = Value.bool true := congrArg Value.bool (ndec_t hb9)
      refine G_not (b' := true) (dj := 32) rfl rfl hq10 rfl ?_
      refine G_not (b' := true) (dj := 32) rfl rfl hq10 rfl ?_
      refine L_val (v := .bool true) (y_pick_t (ev_tv rfl hq10) ev_c) ?_
      refine L_val (v := .bool true) (y_move (ev_tv rfl rfl)) ?_
      refine G_not (b' := true) (dj := 36) rfl rfl rfl rfl ?_
      refine G_not (b' := true) (dj := 36) rfl rfl rfl rfl ?_
      refine L_val (v := .bool true) (y_pick_t (ev_tv rfl rfl) ev_c) ?_
      refine L_val (v := .bool true) (y_move (ev_tv rfl rfl)) ?_
      refine G_not (b' := true) (dj := 40) rfl rfl rfl rfl ?_
      refine G_not (b' := true) (dj := 40) rfl rfl rfl rfl ?_
      refine L_val (v := .bool true) (y_pick_t (ev_tv rfl rfl) ev_c) ?_
      refine l_nil ?_
      refine then_norm ?_
      refine hK5 _ _ ?_
      clear hK5
      refine cond_t (ev_tv rfl rfl) ?_
      refine c_seq ?_
      intro K11 hK11
      refine c_region ?_
      refine L_val (v := .bool false) (y_assign ev_c) ?_
      refine l_nil ?_
      refine then_norm ?_
      refine hK11 _ _ ?_
      clear hK11
      refine c_ret ?_
      refine then_ret ?_
      exact body_1 rfl (ev_tv rfl rfl) H
    · replace H := H.2 hb9
      have hq10 : Value.bool (!decide ((x8 : Int) = 0)) = Value.bool false := congrArg Value.bool (ndec_f hb9)
      refine G_val (dj := 32) rfl rfl hq10 (v := .pointer x3) (y_move (ev_tv rfl rfl)) ?_
      refine G_val (dj := 32) rfl rfl hq10 (v := .bool (x3.isNone)) (y_peq Try.underlying24 (ev_tv rfl rfl) ev_c) ?_
      refine L_val (v := .bool (x3.isNone)) (y_pick_f (ev_tv rfl hq10) (ev_tv rfl rfl)) ?_
      refine L_val (v := .bool (x3.isNone)) (y_move (ev_tv rfl rfl)) ?_
      rcases (Classical.em (x3 = none)) with hb12 | hb12
      · replace H := H.1 hb12
        have hq13 : Value.bool (x3.isNone) = Value.bool true := congrArg Value.bool (isn_t hb12)
        refine G_not (b' := true) (dj := 36) rfl rfl hq13 rfl ?_
        refine G_not (b' := true) (dj := 36) rfl rfl hq13 rfl ?_
        refine L_val (v := .bool true) (y_pick_t (ev_tv rfl hq13) ev_c) ?_
        refine L_val (v := .bool true) (y_move (ev_tv rfl rfl)) ?_
        refine G_not (b' := true) (dj := 40) rfl rfl rfl rfl ?_
        refine G_not (b' := true) (dj := 40) rfl rfl rfl rfl ?_
        refine L_val (v := .bool true) (y_pick_t (ev_tv rfl rfl) ev_c) ?_
        refine l_nil ?_
        refine then_norm ?_
        refine hK5 _ _ ?_
        clear hK5
        refine cond_t (ev_tv rfl rfl) ?_
        refine c_seq ?_
        intro K14 hK14
        refine c_region ?_
        refine L_val (v := .bool false) (y_assign ev_c) ?_
        refine l_nil ?_
        refine then_norm ?_
        refine hK14 _ _ ?_
        clear hK14
        refine c_ret ?_
        refine then_ret ?_
        exact body_1 rfl (ev_tv rfl rfl) H
      · replace H := H.2 hb12
        have hq13 : Value.bool (x3.isNone) = Value.bool false := congrArg Value.bool (isn_f hb12)
        refine G_val (dj := 36) rfl rfl hq13 (v := .pointer x7) (y_move (ev_tv rfl rfl)) ?_
        refine G_val (dj := 36) rfl rfl hq13 (v := .bool (x7.isNone)) (y_peq Try.underlying24 (ev_tv rfl rfl) ev_c) ?_
        refine L_val (v := .bool (x7.isNone)) (y_pick_f (ev_tv rfl hq13) (ev_tv rfl rfl)) ?_
        refine L_val (v := .bool (x7.isNone)) (y_move (ev_tv rfl rfl)) ?_
        rcases (Classical.em (x7 = none)) with hb15 | hb15
        · replace H := H.1 hb15
          have hq16 : Value.bool (x7.isNone) = Value.bool true := congrArg Value.bool (isn_t hb15)
          refine G_not (b' := true) (dj := 40) rfl rfl hq16 rfl ?_
          refine G_not (b' := true) (dj := 40) rfl rfl hq16 rfl ?_
          refine L_val (v := .bool true) (y_pick_t (ev_tv rfl hq16) ev_c) ?_
          refine l_nil ?_
          refine then_norm ?_
          refine hK5 _ _ ?_
          clear hK5
          refine cond_t (ev_tv rfl rfl) ?_
          refine c_seq ?_
          intro K17 hK17
          refine c_region ?_
          refine L_val (v := .bool false) (y_assign ev_c) ?_
          refine l_nil ?_
          refine then_norm ?_
          refine hK17 _ _ ?_
          clear hK17
          refine c_ret ?_
          refine then_ret ?_
          exact body_1 rfl (ev_tv rfl rfl) H
        · replace H := H.2 hb15
          have hq16 : Value.bool (x7.isNone) = Value.bool false := congrArg Value.bool (isn_f hb15)
          refine G_call (dj := 40) rfl rfl hq16 (y_call Try.call8 map_ev0 ev_f) (Calls.mono H ?_)
          clear H
          rintro _ w12 ⟨x11, rfl, H⟩
          refine ⟨_, rfl, ?_⟩
          rcases Bool.eq_false_or_eq_true x11 with hb18 | hb18
          · replace H := H.1 hb18
            have hq19 : Value.bool (x11) = Value.bool true := congrArg Value.bool hb18
            refine G_val (dj := 40) rfl rfl hq16 (v := .bool false) (y_not_t (ev_tv rfl hq19)) ?_
            refine L_val (v := .bool false) (y_pick_f (ev_tv rfl hq16) (ev_tv rfl rfl)) ?_
            refine l_nil ?_
            refine then_norm ?_
            refine hK5 _ _ ?_
            clear hK5
            refine cond_f (ev_tv rfl rfl) ?_
            refine c_skip ?_
            refine then_norm ?_
            refine hK4 _ _ ?_
            clear hK4
            obtain ⟨J20, hJ21, H⟩ := H
            refine c_seqJ [(9, 10), (44, 97)] (fun ff ww => J20  ww) ?_ ?_
            · clear hJ21
              intro K25 hK25
              refine c_seq ?_
              intro K78 hK78
              refine c_region ?_
              refine L_val (v := .int .i64 0) (y_assign ev_c) ?_
              refine l_nil ?_
              refine then_norm ?_
              refine hK78 _ _ ?_
              clear hK78
              refine c_block ?_
              obtain ⟨I79, ⟨m83, HI84⟩, H⟩ := H
              refine loop_fr ([(9, 10), (44, 97)]) (fun m ff ww => ∃ (v47 : Int), ff 9 = (.int .i64 v47 : Value) ∧ I79 m v47 ww) m83 ⟨0, rfl, HI84⟩ ?_
              rintro m48 f80 w49 hag81 ⟨v47, hs85, HI82⟩
              replace H := H m48 v47 w49 HI82
              refine c_seq ?_
              intro K86 hK86
              refine c_seq ?_
              intro K87 hK87
              refine c_region ?_
              refine L_val (v := .int .i64 v47) (y_move (ev_tv rfl hs85)) ?_
              refine L_val (v := .slice a_l1 a_l1l a_l1c) (y_move (ev_tv rfl ((hag81 0 rfl).trans rfl))) ?_
              refine L_val (v := .int .i64 ((a_l1l : Nat) : Int)) (y_len Try.underlying22 rfl (map_ev1 (ev_tv rfl rfl))) ?_
              refine L_val (v := .bool (decide ((v47 : Int) < ((a_l1l : Nat) : Int)))) (y_lss (ev_tv rfl rfl) (ev_tv rfl rfl)) ?_
              refine l_nil ?_
              refine then_norm ?_
              refine hK87 _ _ ?_
              clear hK87
              rcases (Decidable.em ((v47 : Int) < ((a_l1l : Nat) : Int))) with hb88 | hb88
              · replace H := H.1 hb88
                have hq89 : Value.bool (decide ((v47 : Int) < ((a_l1l : Nat) : Int))) = Value.bool true := congrArg Value.bool (decide_eq_true hb88)
                refine cond_t (ev_tv rfl hq89) ?_
                refine c_skip ?_
                refine then_norm ?_
                refine hK86 _ _ ?_
                clear hK86
                refine c_seq ?_
                intro K90 hK90
                refine c_block ?_
                refine c_seq ?_
                intro K91 hK91
                refine c_region ?_
                refine L_val (v := .slice a_l1 a_l1l a_l1c) (y_move (ev_tv rfl ((hag81 0 rfl).trans rfl))) ?_
                refine L_val (v := .int .i64 v47) (y_move (ev_tv rfl hs85)) ?_
                obtain ⟨b50, o51, rfl, H⟩ := H
                obtain ⟨hi92, hi93, H⟩ := H
                refine L_val (v := .pointer (some ⟨b50, o51 + (v47 : Int).toNat * 7, none⟩)) (y_ix Try.underlying22 Try.type34 rfl (ev_tv rfl rfl) (ev_tv rfl rfl) hi92 hi93) ?_
                obtain ⟨x52, x53, x54, x55, x56, x57, x58, x58l, x58c, hc94, H⟩ := H
                refine L_val (v := .agg #[.int .i64 x52, .int .i64 x53, .int .i64 x54, .int .i64 x55, .int .u32 x56, .int .i64 x57, .slice x58 x58l x58c]) (y_loadAgg Try.underlying34 rfl Try.type34 rfl (ev_tv rfl rfl) hc94) ?_
                obtain ⟨b59, hb95⟩ : ∃ b59 : Nat, b59 = World.heapSize w49 := ⟨_, rfl⟩
                obtain ⟨w60, hw96⟩ : ∃ w60 : World, w60 = World.alloc w49 (.cells #[.int .i64 0, .int .i64 0, .int .i64 0, .int .i64 0, .int .u32 0, .int .i64 0, .slice none 0 0] 34) := ⟨_, rfl⟩
                replace H := H b59 w60 hb95 hw96
                refine L_val (v := .pointer (some ⟨b59, 0, none⟩)) (y_alloc Try.type34 rfl rfl hb95 hw96) ?_
                obtain ⟨hc97, H⟩ := H
                obtain ⟨w61, hw99⟩ : ∃ w61 : World, w61 = putCells w60 ⟨b59, 0, none⟩ [.int .i64 x52, .int .i64 x53, .int .i64 x54, .int .i64 x55, .int .u32 x56, .int .i64 x57, .slice x58 x58l x58c] 0 := ⟨_, rfl⟩
                replace H := H w61 hw99
                refine L_skip (y_storeAgg Try.type34 rfl (by intro v hv; simp only [List.mem_cons, List.not_mem_nil, or_false] at hv; rcases hv with rfl | rfl | rfl | rfl | rfl | rfl | rfl <;> rfl) (ev_tv rfl rfl) (ev_tv rfl rfl) hc97 hw99) ?_
                refine l_nil ?_
                refine then_norm ?_
                refine hK91 _ _ ?_
                clear hK91
                obtain ⟨J100, hJ101, H⟩ := H
                refine c_seqJ [(54, 76)] (fun ff ww => J100  ww) ?_ ?_
                · clear hJ101
                  intro K105 hK105
                  refine c_seq ?_
                  intro K125 hK125
                  refine c_region ?_
                  refine L_val (v := .pointer (some ⟨b59, 0, none⟩)) (Try.fa34_0 (ev_tv rfl rfl)) ?_
                  obtain ⟨x81, hc126, H⟩ := H
                  refine L_val (v := .int .i64 x81) (y_load Try.underlying3 rfl (ev_tv rfl rfl) hc126) ?_
                  refine L_val (v := .bool (decide ((x81 : Int) = 2))) (y_ieq (ev_tv rfl rfl) ev_c) ?_
                  refine l_nil ?_
                  refine then_norm ?_
                  refine hK125 _ _ ?_
                  clear hK125
                  rcases (Decidable.em ((x81 : Int) = 2)) with hb127 | hb127
                  · replace H := H.1 hb127
                    have hq128 : Value.bool (decide ((x81 : Int) = 2)) = Value.bool true := congrArg Value.bool (decide_eq_true hb127)
                    refine cond_t (ev_tv rfl hq128) ?_
                    refine c_seq ?_
                    intro K129 hK129
                    refine c_region ?_
                    refine L_val (v := .pointer x3) (y_move (ev_tv rfl ((hag81 5 rfl).trans rfl))) ?_
                    refine L_val (v := .pointer (some ⟨b59, 0 + 1, none⟩)) (Try.fa34_1 (ev_tv rfl rfl)) ?_
                    obtain ⟨x82, hc130, H⟩ := H
                    refine L_val (v := .int .i64 x82) (y_load Try.underlying3 rfl (ev_tv rfl rfl) hc130) ?_
                    refine L_val (v := .pointer (some ⟨b59, 0 + 2, none⟩)) (Try.fa34_2 (ev_tv rfl rfl)) ?_
                    obtain ⟨x83, x84, hc131, H⟩ := H
                    refine L_val (v := .agg #[.int .i64 x83, .int .i64 x84]) (y_loadAgg Try.underlying31 rfl Try.type31 rfl (ev_tv rfl rfl) hc131) ?_
                    refine L_val (v := .pointer (some ⟨b59, 0 + 4, none⟩)) (Try.fa34_3 (ev_tv rfl rfl)) ?_
                    obtain ⟨x85, hc132, H⟩ := H
                    refine L_val (v := .int .u32 x85) (y_load Try.underlying32 rfl (ev_tv rfl rfl) hc132) ?_
                    refine L_call (y_call Try.call9 (map_ev4 (ev_tv rfl rfl) (ev_tv rfl rfl) (ev_tv rfl rfl) (ev_tv rfl rfl)) ev_f) (Calls.mono H ?_)
                    clear H
                    rintro _ w87 ⟨x86, rfl, H⟩
                    refine ⟨_, rfl, ?_⟩
                    refine l_nil ?_
                    refine then_norm ?_
                    refine hK129 _ _ ?_
                    clear hK129
                    refine c_seq ?_
                    intro K133 hK133
                    refine c_region ?_
                    refine L_val (v := .pointer (some ⟨b59, 0 + 1, none⟩)) (Try.fa34_1 (ev_tv rfl rfl)) ?_
                    obtain ⟨x89, hc134, H⟩ := H
                    refine L_val (v := .int .i64 x89) (y_load Try.underlying3 rfl (ev_tv rfl rfl) hc134) ?_
                    refine L_val (v := .int .i64 a_hart2) (y_move (ev_tv rfl ((hag81 1 rfl).trans rfl))) ?_
                    refine L_val (v := .bool (decide ((x89 : Int) = a_hart2))) (y_ieq (ev_tv rfl rfl) (ev_tv rfl rfl)) ?_
                    refine l_nil ?_
                    refine then_norm ?_
                    refine hK133 _ _ ?_
                    clear hK133
                    rcases (Decidable.em ((x89 : Int) = a_hart2)) with hb135 | hb135
                    · replace H := H.1 hb135
                      have hq136 : Value.bool (decide ((x89 : Int) = a_hart2)) = Value.bool true := congrArg Value.bool (decide_eq_true hb135)
                      refine cond_t (ev_tv rfl hq136) ?_
                      refine c_region ?_
                      refine L_val (v := .pointer x7) (y_move (ev_tv rfl ((hag81 7 rfl).trans rfl))) ?_
                      refine L_val (v := .pointer (some ⟨b59, 0 + 1, none⟩)) (Try.fa34_1 (ev_tv rfl rfl)) ?_
                      obtain ⟨x90, hc137, H⟩ := H
                      refine L_val (v := .int .i64 x90) (y_load Try.underlying3 rfl (ev_tv rfl rfl) hc137) ?_
                      refine L_val (v := .pointer (some ⟨b59, 0 + 2, none⟩)) (Try.fa34_2 (ev_tv rfl rfl)) ?_
                      obtain ⟨x91, x92, hc138, H⟩ := H
                      refine L_val (v := .agg #[.int .i64 x91, .int .i64 x92]) (y_loadAgg Try.underlying31 rfl Try.type31 rfl (ev_tv rfl rfl) hc138) ?_
                      refine L_val (v := .pointer (some ⟨b59, 0 + 4, none⟩)) (Try.fa34_3 (ev_tv rfl rfl)) ?_
                      obtain ⟨x93, hc139, H⟩ := H
                      refine L_val (v := .int .u32 x93) (y_load Try.underlying32 rfl (ev_tv rfl rfl) hc139) ?_
                      refine L_call (y_call Try.call9 (map_ev4 (ev_tv rfl rfl) (ev_tv rfl rfl) (ev_tv rfl rfl) (ev_tv rfl rfl)) ev_f) (Calls.mono H ?_)
                      clear H
                      rintro _ w95 ⟨x94, rfl, H⟩
                      refine ⟨_, rfl, ?_⟩
                      refine l_nil ?_
                      refine then_norm ?_
                      exact hK105 _ _ (by repeat (first | exact agree_refl | exact hag81 | refine agree_upd rfl ?_ | refine agree_via hag81 rfl ?_)) H
                    · replace H := H.2 hb135
                      have hq136 : Value.bool (decide ((x89 : Int) = a_hart2)) = Value.bool false := congrArg Value.bool (decide_eq_false hb135)
                      refine cond_f (ev_tv rfl hq136) ?_
                      refine c_skip ?_
                      refine then_norm ?_
                      exact hK105 _ _ (by repeat (first | exact agree_refl | exact hag81 | refine agree_upd rfl ?_ | refine agree_via hag81 rfl ?_)) H
                  · replace H := H.2 hb127
                    have hq128 : Value.bool (decide ((x81 : Int) = 2)) = Value.bool false := congrArg Value.bool (decide_eq_false hb127)
                    refine cond_f (ev_tv rfl hq128) ?_
                    refine c_skip ?_
                    refine then_norm ?_
                    exact hK105 _ _ (by repeat (first | exact agree_refl | exact hag81 | refine agree_upd rfl ?_ | refine agree_via hag81 rfl ?_)) H
                · clear H
                  intro f102 w62 hag103 HJ104
                  have H := hJ101  w62 HJ104
                  clear hJ101
                  refine c_seq ?_
                  intro K106 hK106
                  refine c_region ?_
                  refine L_val (v := .pointer (some ⟨b59, 0, none⟩)) (Try.fa34_0 (ev_tv rfl ((hag103 10 rfl).trans rfl))) ?_
                  obtain ⟨x63, hc107, H⟩ := H
                  refine L_val (v := .int .i64 x63) (y_load Try.underlying3 rfl (ev_tv rfl rfl) hc107) ?_
                  refine L_val (v := .bool (decide ((x63 : Int) = 3))) (y_ieq (ev_tv rfl rfl) ev_c) ?_
                  refine l_nil ?_
                  refine then_norm ?_
                  refine hK106 _ _ ?_
                  clear hK106
                  rcases (Decidable.em ((x63 : Int) = 3)) with hb108 | hb108
                  · replace H := H.1 hb108
                    have hq109 : Value.bool (decide ((x63 : Int) = 3)) = Value.bool true := congrArg Value.bool (decide_eq_true hb108)
                    refine cond_t (ev_tv rfl hq109) ?_
                    refine c_seq ?_
                    intro K110 hK110
                    refine c_region ?_
                    refine L_val (v := .pointer x3) (y_move (ev_tv rfl ((hag103 5 rfl).trans ((hag81 5 rfl).trans rfl)))) ?_
                    refine L_val (v := .pointer (some ⟨b59, 0 + 1, none⟩)) (Try.fa34_1 (ev_tv rfl ((hag103 10 rfl).trans rfl))) ?_
                    obtain ⟨x64, hc111, H⟩ := H
                    refine L_val (v := .int .i64 x64) (y_load Try.underlying3 rfl (ev_tv rfl rfl) hc111) ?_
                    refine L_val (v := .pointer (some ⟨b59, 0 + 2, none⟩)) (Try.fa34_2 (ev_tv rfl ((hag103 10 rfl).trans rfl))) ?_
                    refine L_val (v := .pointer (some ⟨b59, 0 + 2, none⟩)) (Try.fa31_0 (ev_tv rfl rfl)) ?_
                    obtain ⟨x65, hc112, H⟩ := H
                    refine L_val (v := .int .i64 x65) (y_load Try.underlying3 rfl (ev_tv rfl rfl) hc112) ?_
                    refine L_call (y_call Try.call15 (map_ev3 (ev_tv rfl rfl) (ev_tv rfl rfl) (ev_tv rfl rfl)) ev_f) (Calls.mono H ?_)
                    clear H
                    rintro _ w67 ⟨x66, rfl, H⟩
                    refine ⟨_, rfl, ?_⟩
                    refine l_nil ?_
                    refine then_norm ?_
                    refine hK110 _ _ ?_
                    clear hK110
                    refine c_seq ?_
                    intro K113 hK113
                    refine c_region ?_
                    refine L_val (v := .pointer (some ⟨b59, 0 + 1, none⟩)) (Try.fa34_1 (ev_tv rfl ((hag103 10 rfl).trans rfl))) ?_
                    obtain ⟨x69, hc114, H⟩ := H
                    refine L_val (v := .int .i64 x69) (y_load Try.underlying3 rfl (ev_tv rfl rfl) hc114) ?_
                    refine L_val (v := .int .i64 a_hart2) (y_move (ev_tv rfl ((hag103 1 rfl).trans ((hag81 1 rfl).trans rfl)))) ?_
                    refine L_val (v := .bool (decide ((x69 : Int) = a_hart2))) (y_ieq (ev_tv rfl rfl) (ev_tv rfl rfl)) ?_
                    refine l_nil ?_
                    refine then_norm ?_
                    refine hK113 _ _ ?_
                    clear hK113
                    rcases (Decidable.em ((x69 : Int) = a_hart2)) with hb115 | hb115
                    · replace H := H.1 hb115
                      have hq116 : Value.bool (decide ((x69 : Int) = a_hart2)) = Value.bool true := congrArg Value.bool (decide_eq_true hb115)
                      refine cond_t (ev_tv rfl hq116) ?_
                      refine c_region ?_
                      refine L_val (v := .pointer x7) (y_move (ev_tv rfl ((hag103 7 rfl).trans ((hag81 7 rfl).trans rfl)))) ?_
                      refine L_val (v := .pointer (some ⟨b59, 0 + 1, none⟩)) (Try.fa34_1 (ev_tv rfl ((hag103 10 rfl).trans rfl))) ?_
                      obtain ⟨x70, hc117, H⟩ := H
                      refine L_val (v := .int .i64 x70) (y_load Try.underlying3 rfl (ev_tv rfl rfl) hc117) ?_
                      refine L_val (v := .pointer (some ⟨b59, 0 + 2, none⟩)) (Try.fa34_2 (ev_tv rfl ((hag103 10 rfl).trans rfl))) ?_
                      refine L_val (v := .pointer (some ⟨b59, 0 + 2, none⟩)) (Try.fa31_0 (ev_tv rfl rfl)) ?_
                      obtain ⟨x71, hc118, H⟩ := H
                      refine L_val (v := .int .i64 x71) (y_load Try.underlying3 rfl (ev_tv rfl rfl) hc118) ?_
                      refine L_call (y_call Try.call15 (map_ev3 (ev_tv rfl rfl) (ev_tv rfl rfl) (ev_tv rfl rfl)) ev_f) (Calls.mono H ?_)
                      clear H
                      rintro _ w73 ⟨x72, rfl, H⟩
                      refine ⟨_, rfl, ?_⟩
                      refine l_nil ?_
                      refine block_norm ?_
                      refine then_norm ?_
                      refine hK90 _ _ ?_
                      clear hK90
                      refine c_region ?_
                      refine L_val (v := .int .i64 v47) (y_move (ev_tv rfl ((hag103 9 rfl).trans hs85))) ?_
                      obtain ⟨r75, hr119⟩ : ∃ r75 : Int, r75 = IntKind.wrap .i64 (v47 + 1) := ⟨_, rfl⟩
                      replace H := H r75 hr119
                      refine L_val (v := .int .i64 r75) (y_add (ev_tv rfl rfl) ev_c hr119) ?_
                      refine L_val (v := .int .i64 r75) (y_assign (ev_tv rfl rfl)) ?_
                      refine l_nil ?_
                      refine then_norm ?_
                      obtain ⟨m76, hm120, H⟩ := H
                      exact ⟨_, rfl, (by repeat (first | exact agree_refl | exact hag103 | exact hag81 | refine agree_upd rfl ?_ | refine agree_via hag103 rfl ?_ | refine agree_via hag81 rfl ?_)), m76, hm120, _, rfl, H⟩
                    · replace H := H.2 hb115
                      have hq116 : Value.bool (decide ((x69 : Int) = a_hart2)) = Value.bool false := congrArg Value.bool (decide_eq_false hb115)
                      refine cond_f (ev_tv rfl hq116) ?_
                      refine c_skip ?_
                      refine block_norm ?_
                      refine then_norm ?_
                      refine hK90 _ _ ?_
                      clear hK90
                      refine c_region ?_
                      refine L_val (v := .int .i64 v47) (y_move (ev_tv rfl ((hag103 9 rfl).trans hs85))) ?_
                      obtain ⟨r77, hr121⟩ : ∃ r77 : Int, r77 = IntKind.wrap .i64 (v47 + 1) := ⟨_, rfl⟩
                      replace H := H r77 hr121
                      refine L_val (v := .int .i64 r77) (y_add (ev_tv rfl rfl) ev_c hr121) ?_
                      refine L_val (v := .int .i64 r77) (y_assign (ev_tv rfl rfl)) ?_
                      refine l_nil ?_
                      refine then_norm ?_
                      obtain ⟨m78, hm122, H⟩ := H
                      exact ⟨_, rfl, (by repeat (first | exact agree_refl | exact hag103 | exact hag81 | refine agree_upd rfl ?_ | refine agree_via hag103 rfl ?_ | refine agree_via hag81 rfl ?_)), m78, hm122, _, rfl, H⟩
                  · replace H := H.2 hb108
                    have hq109 : Value.bool (decide ((x63 : Int) = 3)) = Value.bool false := congrArg Value.bool (decide_eq_false hb108)
                    refine cond_f (ev_tv rfl hq109) ?_
                    refine c_skip ?_
                    refine block_norm ?_
                    refine then_norm ?_
                    refine hK90 _ _ ?_
                    clear hK90
                    refine c_region ?_
                    refine L_val (v := .int .i64 v47) (y_move (ev_tv rfl ((hag103 9 rfl).trans hs85))) ?_
                    obtain ⟨r79, hr123⟩ : ∃ r79 : Int, r79 = IntKind.wrap .i64 (v47 + 1) := ⟨_, rfl⟩
                    replace H := H r79 hr123
                    refine L_val (v := .int .i64 r79) (y_add (ev_tv rfl rfl) ev_c hr123) ?_
                    refine L_val (v := .int .i64 r79) (y_assign (ev_tv rfl rfl)) ?_
                    refine l_nil ?_
                    refine then_norm ?_
                    obtain ⟨m80, hm124, H⟩ := H
                    exact ⟨_, rfl, (by repeat (first | exact agree_refl | exact hag103 | exact hag81 | refine agree_upd rfl ?_ | refine agree_via hag103 rfl ?_ | refine agree_via hag81 rfl ?_)), m80, hm124, _, rfl, H⟩
              · replace H := H.2 hb88
                have hq89 : Value.bool (decide ((v47 : Int) < ((a_l1l : Nat) : Int))) = Value.bool false := congrArg Value.bool (decide_eq_false hb88)
                refine cond_f (ev_tv rfl hq89) ?_
                refine c_exit ?_
                refine then_exit ?_
                refine then_exit ?_
                refine block_hit ?_
                refine then_norm ?_
                exact hK25 _ _ (by repeat (first | exact agree_refl | exact hag81 | refine agree_upd rfl ?_ | refine agree_via hag81 rfl ?_)) H
            · clear H
              intro f22 w14 hag23 HJ24
              have H := hJ21  w14 HJ24
              clear hJ21
              refine c_seq ?_
              intro K26 hK26
              refine c_region ?_
              refine L_val (v := .pointer x3) (y_move (ev_tv rfl ((hag23 5 rfl).trans rfl))) ?_
              refine L_val (v := .int .i64 a_hart2) (y_move (ev_tv rfl ((hag23 1 rfl).trans rfl))) ?_
              refine L_call (y_call Try.call14 (map_ev2 (ev_tv rfl rfl) (ev_tv rfl rfl)) ev_f) (Calls.mono H ?_)
              clear H
              rintro _ w16 ⟨x15, x15l, x15c, rfl, H⟩
              refine ⟨_, rfl, ?_⟩
              refine L_val (v := .pointer x7) (y_move (ev_tv rfl ((hag23 7 rfl).trans rfl))) ?_
              refine L_val (v := .int .i64 a_hart2) (y_move (ev_tv rfl ((hag23 1 rfl).trans rfl))) ?_
              refine L_call (y_call Try.call14 (map_ev2 (ev_tv rfl rfl) (ev_tv rfl rfl)) ev_f) (Calls.mono H ?_)
              clear H
              rintro _ w19 ⟨x18, x18l, x18c, rfl, H⟩
              refine ⟨_, rfl, ?_⟩
              refine L_val (v := .slice x15 x15l x15c) (y_assign (ev_tv rfl rfl)) ?_
              refine L_val (v := .slice x18 x18l x18c) (y_assign (ev_tv rfl rfl)) ?_
              refine l_nil ?_
              refine then_norm ?_
              refine hK26 _ _ ?_
              clear hK26
              refine c_seq ?_
              intro K27 hK27
              refine c_seq ?_
              intro K28 hK28
              refine c_region ?_
              refine L_val (v := .slice x15 x15l x15c) (y_move (ev_tv rfl rfl)) ?_
              refine L_val (v := .int .i64 ((x15l : Nat) : Int)) (y_len Try.underlying40 rfl (map_ev1 (ev_tv rfl rfl))) ?_
              refine L_val (v := .slice x18 x18l x18c) (y_move (ev_tv rfl rfl)) ?_
              refine L_val (v := .int .i64 ((x18l : Nat) : Int)) (y_len Try.underlying40 rfl (map_ev1 (ev_tv rfl rfl))) ?_
              refine L_val (v := .bool (!decide ((((x15l : Nat) : Int) : Int) = ((x18l : Nat) : Int)))) (y_ine (ev_tv rfl rfl) (ev_tv rfl rfl)) ?_
              refine l_nil ?_
              refine then_norm ?_
              refine hK28 _ _ ?_
              clear hK28
              rcases (Decidable.em ((((x15l : Nat) : Int) : Int) = ((x18l : Nat) : Int))).symm with hb29 | hb29
              · replace H := H.1 hb29
                have hq30 : Value.bool (!decide ((((x15l : Nat) : Int) : Int) = ((x18l : Nat) : Int))) = Value.bool true := congrArg Value.bool (ndec_t hb29)
                refine cond_t (ev_tv rfl hq30) ?_
                refine c_seq ?_
                intro K31 hK31
                refine c_region ?_
                refine L_val (v := .bool false) (y_assign ev_c) ?_
                refine l_nil ?_
                refine then_norm ?_
                refine hK31 _ _ ?_
                clear hK31
                refine c_ret ?_
                refine then_ret ?_
                exact body_1 rfl (ev_tv rfl rfl) H
              · replace H := H.2 hb29
                have hq30 : Value.bool (!decide ((((x15l : Nat) : Int) : Int) = ((x18l : Nat) : Int))) = Value.bool false := congrArg Value.bool (ndec_f hb29)
                refine cond_f (ev_tv rfl hq30) ?_
                refine c_skip ?_
                refine then_norm ?_
                refine hK27 _ _ ?_
                clear hK27
                refine c_seq ?_
                intro K32 hK32
                refine c_seq ?_
                intro K33 hK33
                refine c_region ?_
                refine L_val (v := .int .i64 0) (y_assign ev_c) ?_
                refine l_nil ?_
                refine then_norm ?_
                refine hK33 _ _ ?_
                clear hK33
                refine c_block ?_
                obtain ⟨I34, ⟨m38, HI39⟩, H⟩ := H
                refine loop_fr ([(4, 4), (13, 17), (109, 156)]) (fun m ff ww => ∃ (v21 : Int), ff 13 = (.int .i64 v21 : Value) ∧ I34 m v21 ww) m38 ⟨0, rfl, HI39⟩ ?_
                rintro m22 f35 w23 hag36 ⟨v21, hs40, HI37⟩
                replace H := H m22 v21 w23 HI37
                refine c_seq ?_
                intro K41 hK41
                refine c_seq ?_
                intro K42 hK42
                refine c_region ?_
                refine L_val (v := .int .i64 v21) (y_move (ev_tv rfl hs40)) ?_
                refine L_val (v := .slice x15 x15l x15c) (y_move (ev_tv rfl ((hag36 11 rfl).trans rfl))) ?_
                refine L_val (v := .int .i64 ((x15l : Nat) : Int)) (y_len Try.underlying40 rfl (map_ev1 (ev_tv rfl rfl))) ?_
                refine L_val (v := .bool (decide ((v21 : Int) < ((x15l : Nat) : Int)))) (y_lss (ev_tv rfl rfl) (ev_tv rfl rfl)) ?_
                refine l_nil ?_
                refine then_norm ?_
                refine hK42 _ _ ?_
                clear hK42
                rcases (Decidable.em ((v21 : Int) < ((x15l : Nat) : Int))) with hb43 | hb43
                · replace H := H.1 hb43
                  have hq44 : Value.bool (decide ((v21 : Int) < ((x15l : Nat) : Int))) = Value.bool true := congrArg Value.bool (decide_eq_true hb43)
                  refine cond_t (ev_tv rfl hq44) ?_
                  refine c_skip ?_
                  refine then_norm ?_
                  refine hK41 _ _ ?_
                  clear hK41
                  refine c_seq ?_
                  intro K45 hK45
                  refine c_block ?_
                  refine c_seq ?_
                  intro K46 hK46
                  refine c_region ?_
                  refine L_val (v := .pointer x3) (y_move (ev_tv rfl ((hag36 5 rfl).trans ((hag23 5 rfl).trans rfl)))) ?_
                  refine L_val (v := .int .i64 a_hart2) (y_move (ev_tv rfl ((hag36 1 rfl).trans ((hag23 1 rfl).trans rfl)))) ?_
                  refine L_val (v := .slice x15 x15l x15c) (y_move (ev_tv rfl ((hag36 11 rfl).trans rfl))) ?_
                  refine L_val (v := .int .i64 v21) (y_move (ev_tv rfl hs40)) ?_
                  obtain ⟨b24, o25, rfl, H⟩ := H
                  obtain ⟨hi47, hi48, H⟩ := H
                  refine L_val (v := .pointer (some ⟨b24, o25 + (v21 : Int).toNat * 2, none⟩)) (y_ix Try.underlying40 Try.type31 rfl (ev_tv rfl rfl) (ev_tv rfl rfl) hi47 hi48) ?_
                  obtain ⟨x26, x27, hc49, H⟩ := H
                  refine L_val (v := .agg #[.int .i64 x26, .int .i64 x27]) (y_loadAgg Try.underlying31 rfl Try.type31 rfl (ev_tv rfl rfl) hc49) ?_
                  refine L_call (y_call Try.call16 (map_ev3 (ev_tv rfl rfl) (ev_tv rfl rfl) (ev_tv rfl rfl)) ev_f) (Calls.mono H ?_)
                  clear H
                  rintro _ w30 ⟨x28, x29, rfl, H⟩
                  refine ⟨_, rfl, ?_⟩
                  refine L_val (v := .tuple #[.int .u32 x28, .bool x29]) (y_move (ev_tv rfl rfl)) ?_
                  refine L_val (v := .int .u32 x28) (y_extract (ev_tv rfl rfl) rfl) ?_
                  refine L_val (v := .bool x29) (y_extract (ev_tv rfl rfl) rfl) ?_
                  refine L_val (v := .int .u32 x28) (y_assign (ev_tv rfl rfl)) ?_
                  refine L_val (v := .bool x29) (y_assign (ev_tv rfl rfl)) ?_
                  refine l_nil ?_
                  refine then_norm ?_
                  refine hK46 _ _ ?_
                  clear hK46
                  refine c_seq ?_
                  intro K50 hK50
                  refine c_region ?_
                  refine L_val (v := .pointer x7) (y_move (ev_tv rfl ((hag36 7 rfl).trans ((hag23 7 rfl).trans rfl)))) ?_
                  refine L_val (v := .int .i64 a_hart2) (y_move (ev_tv rfl ((hag36 1 rfl).trans ((hag23 1 rfl).trans rfl)))) ?_
                  refine L_val (v := .slice x18 x18l x18c) (y_move (ev_tv rfl ((hag36 12 rfl).trans rfl))) ?_
                  refine L_val (v := .int .i64 v21) (y_move (ev_tv rfl hs40)) ?_
                  obtain ⟨b32, o33, rfl, H⟩ := H
                  obtain ⟨hi51, hi52, H⟩ := H
                  refine L_val (v := .pointer (some ⟨b32, o33 + (v21 : Int).toNat * 2, none⟩)) (y_ix Try.underlying40 Try.type31 rfl (ev_tv rfl rfl) (ev_tv rfl rfl) hi51 hi52) ?_
                  obtain ⟨x34, x35, hc53, H⟩ := H
                  refine L_val (v := .agg #[.int .i64 x34, .int .i64 x35]) (y_loadAgg Try.underlying31 rfl Try.type31 rfl (ev_tv rfl rfl) hc53) ?_
                  refine L_call (y_call Try.call16 (map_ev3 (ev_tv rfl rfl) (ev_tv rfl rfl) (ev_tv rfl rfl)) ev_f) (Calls.mono H ?_)
                  clear H
                  rintro _ w38 ⟨x36, x37, rfl, H⟩
                  refine ⟨_, rfl, ?_⟩
                  refine L_val (v := .tuple #[.int .u32 x36, .bool x37]) (y_move (ev_tv rfl rfl)) ?_
                  refine L_val (v := .int .u32 x36) (y_extract (ev_tv rfl rfl) rfl) ?_
                  refine L_val (v := .bool x37) (y_extract (ev_tv rfl rfl) rfl) ?_
                  refine L_val (v := .int .u32 x36) (y_assign (ev_tv rfl rfl)) ?_
                  refine L_val (v := .bool x37) (y_assign (ev_tv rfl rfl)) ?_
                  refine l_nil ?_
                  refine then_norm ?_
                  refine hK50 _ _ ?_
                  clear hK50
                  refine c_seq ?_
                  intro K54 hK54
                  refine D_start Try.mixed rfl [] ?_
                  refine start_keep fun hS => ?_
                  refine D_pure (i := 0) (v := .slice (some ⟨b24, o25, none⟩) x15l x15c) rfl (by kernel_rfl) (W_none rfl) (fun _ => y_move (ev_tv rfl ((hag36 11 rfl).trans rfl))) hS ?_
                  intro hS
                  refine D_pure (i := 1) (v := .int .i64 v21) rfl (by kernel_rfl) (W_none rfl) (fun _ => y_move (ev_tv rfl hs40)) hS ?_
                  intro hS
                  obtain ⟨hi55, hi56, H⟩ := H
                  refine D_pure (i := 2) (v := .pointer (some ⟨b24, o25 + (v21 : Int).toNat * 2, none⟩)) rfl (by kernel_rfl) (W_none rfl) (fun _ => y_ix Try.underlying40 Try.type31 rfl (ev_tv rfl rfl) (ev_tv rfl rfl) hi55 hi56) hS ?_
                  intro hS
                  refine D_pure (i := 4) (v := .slice (some ⟨b32, o33, none⟩) x18l x18c) rfl (by kernel_rfl) (W_none rfl) (fun _ => y_move (ev_tv rfl ((hag36 12 rfl).trans rfl))) hS ?_
                  intro hS
                  refine D_pure (i := 5) (v := .int .i64 v21) rfl (by kernel_rfl) (W_none rfl) (fun _ => y_move (ev_tv rfl hs40)) hS ?_
                  intro hS
                  obtain ⟨hi57, hi58, H⟩ := H
                  refine D_pure (i := 6) (v := .pointer (some ⟨b32, o33 + (v21 : Int).toNat * 2, none⟩)) rfl (by kernel_rfl) (W_none rfl) (fun _ => y_ix Try.underlying40 Try.type31 rfl (ev_tv rfl rfl) (ev_tv rfl rfl) hi57 hi58) hS ?_
                  intro hS
                  obtain ⟨x40, x41, hc59, H⟩ := H
                  refine D_read (i := 3) (v := .agg #[.int .i64 x40, .int .i64 x41]) rfl (by kernel_rfl) (W_none rfl) (fun wx => CellsAt wx ⟨b24, o25 + (v21 : Int).toNat * 2, none⟩ [.int .i64 x40, .int .i64 x41]) hc59 (fun _ hcx => y_loadAgg Try.underlying31 rfl Try.type31 rfl (ev_tv rfl rfl) hcx) hS ?_
                  intro hS
                  obtain ⟨x42, x43, hc60, H⟩ := H
                  refine D_read (i := 7) (v := .agg #[.int .i64 x42, .int .i64 x43]) rfl (by kernel_rfl) (W_none rfl) (fun wx => CellsAt wx ⟨b32, o33 + (v21 : Int).toNat * 2, none⟩ [.int .i64 x42, .int .i64 x43]) hc60 (fun _ hcx => y_loadAgg Try.underlying31 rfl Try.type31 rfl (ev_tv rfl rfl) hcx) hS ?_
                  intro hS
                  obtain ⟨q44, hg62, hc61, H⟩ := H
                  refine D_pure (i := 8) (v := .bool q44) rfl (by kernel_rfl) (W_none rfl) (fun _ => y_nev (ev_tv rfl rfl) (ev_tv rfl rfl) (hg62 _) (hc61 _)) hS ?_
                  intro hS
                  refine D_pure (i := 9) (v := .bool q44) rfl (by kernel_rfl) (W_none rfl) (fun _ => y_move (ev_tv rfl rfl)) hS ?_
                  intro hS
                  rcases Bool.eq_false_or_eq_true q44 with hb63 | hb63
                  · replace H := H.1 hb63
                    have hq64 : Value.bool (q44) = Value.bool true := congrArg Value.bool hb63
                    refine D_not (i := 10) rfl (by kernel_rfl) (W_no (dj := 144) (b' := true) rfl rfl rfl hq64 rfl) hS ?_
                    intro hS
                    refine D_not (i := 11) rfl (by kernel_rfl) (W_no (dj := 144) (b' := true) rfl rfl rfl hq64 rfl) hS ?_
                    intro hS
                    refine D_not (i := 12) rfl (by kernel_rfl) (W_no (dj := 144) (b' := true) rfl rfl rfl hq64 rfl) hS ?_
                    intro hS
                    refine D_pure (i := 13) (v := .bool true) rfl (by kernel_rfl) (W_none rfl) (fun _ => y_pick_t (ev_tv rfl hq64) ev_c) hS ?_
                    intro hS
                    refine D_pure (i := 14) (v := .bool true) rfl (by kernel_rfl) (W_none rfl) (fun _ => y_move (ev_tv rfl rfl)) hS ?_
                    intro hS
                    refine D_not (i := 15) rfl (by kernel_rfl) (W_no (dj := 149) (b' := true) rfl rfl rfl rfl rfl) hS ?_
                    intro hS
                    refine D_not (i := 16) rfl (by kernel_rfl) (W_no (dj := 149) (b' := true) rfl rfl rfl rfl rfl) hS ?_
                    intro hS
                    refine D_pure (i := 17) (v := .bool true) rfl (by kernel_rfl) (W_none rfl) (fun _ => y_pick_t (ev_tv rfl rfl) ev_c) hS ?_
                    intro hS
                    refine D_pure (i := 18) (v := .bool true) rfl (by kernel_rfl) (W_none rfl) (fun _ => y_move (ev_tv rfl rfl)) hS ?_
                    intro hS
                    refine D_not (i := 19) rfl (by kernel_rfl) (W_no (dj := 153) (b' := true) rfl rfl rfl rfl rfl) hS ?_
                    intro hS
                    refine D_not (i := 20) rfl (by kernel_rfl) (W_no (dj := 153) (b' := true) rfl rfl rfl rfl rfl) hS ?_
                    intro hS
                    refine D_pure (i := 21) (v := .bool true) rfl (by kernel_rfl) (W_none rfl) (fun _ => y_pick_t (ev_tv rfl rfl) ev_c) hS ?_
                    intro hS
                    refine D_done (by kernel_rfl) ?_
                    refine then_norm ?_
                    refine hK54 _ _ ?_
                    clear hK54
                    refine cond_t (ev_tv rfl rfl) ?_
                    refine c_seq ?_
                    intro K65 hK65
                    refine c_region ?_
                    refine L_val (v := .bool false) (y_assign ev_c) ?_
                    refine l_nil ?_
                    refine then_norm ?_
                    refine hK65 _ _ ?_
                    clear hK65
                    refine c_ret ?_
                    refine block_ret ?_
                    refine then_ret ?_
                    refine then_ret ?_
                    refine block_ret ?_
                    refine then_ret ?_
                    exact body_1 rfl (ev_tv rfl rfl) H
                  · replace H := H.2 hb63
                    have hq64 : Value.bool (q44) = Value.bool false := congrArg Value.bool hb63
                    refine D_pure (i := 10) (v := .int .u32 x28) rfl (by kernel_rfl) (W_yes (dj := 144) rfl rfl rfl hq64) (fun _ => y_move (ev_tv rfl rfl)) hS ?_
                    intro hS
                    refine D_pure (i := 11) (v := .int .u32 x36) rfl (by kernel_rfl) (W_yes (dj := 144) rfl rfl rfl hq64) (fun _ => y_move (ev_tv rfl rfl)) hS ?_
                    intro hS
                    refine D_pure (i := 12) (v := .bool (!decide ((x28 : Int) = x36))) rfl (by kernel_rfl) (W_yes (dj := 144) rfl rfl rfl hq64) (fun _ => y_ine (ev_tv rfl rfl) (ev_tv rfl rfl)) hS ?_
                    intro hS
                    refine D_pure (i := 13) (v := .bool (!decide ((x28 : Int) = x36))) rfl (by kernel_rfl) (W_none rfl) (fun _ => y_pick_f (ev_tv rfl hq64) (ev_tv rfl rfl)) hS ?_
                    intro hS
                    refine D_pure (i := 14) (v := .bool (!decide ((x28 : Int) = x36))) rfl (by kernel_rfl) (W_none rfl) (fun _ => y_move (ev_tv rfl rfl)) hS ?_
                    intro hS
                    rcases (Decidable.em ((x28 : Int) = x36)).symm with hb66 | hb66
                    · replace H := H.1 hb66
                      have hq67 : Value.bool (!decide ((x28 : Int) = x36)) = Value.bool true := congrArg Value.bool (ndec_t hb66)
                      refine D_not (i := 15) rfl (by kernel_rfl) (W_no (dj := 149) (b' := true) rfl rfl rfl hq67 rfl) hS ?_
                      intro hS
                      refine D_not (i := 16) rfl (by kernel_rfl) (W_no (dj := 149) (b' := true) rfl rfl rfl hq67 rfl) hS ?_
                      intro hS
                      refine D_pure (i := 17) (v := .bool true) rfl (by kernel_rfl) (W_none rfl) (fun _ => y_pick_t (ev_tv rfl hq67) ev_c) hS ?_
                      intro hS
                      refine D_pure (i := 18) (v := .bool true) rfl (by kernel_rfl) (W_none rfl) (fun _ => y_move (ev_tv rfl rfl)) hS ?_
                      intro hS
                      refine D_not (i := 19) rfl (by kernel_rfl) (W_no (dj := 153) (b' := true) rfl rfl rfl rfl rfl) hS ?_
                      intro hS
                      refine D_not (i := 20) rfl (by kernel_rfl) (W_no (dj := 153) (b' := true) rfl rfl rfl rfl rfl) hS ?_
                      intro hS
                      refine D_pure (i := 21) (v := .bool true) rfl (by kernel_rfl) (W_none rfl) (fun _ => y_pick_t (ev_tv rfl rfl) ev_c) hS ?_
                      intro hS
                      refine D_done (by kernel_rfl) ?_
                      refine then_norm ?_
                      refine hK54 _ _ ?_
                      clear hK54
                      refine cond_t (ev_tv rfl rfl) ?_
                      refine c_seq ?_
                      intro K68 hK68
                      refine c_region ?_
                      refine L_val (v := .bool false) (y_assign ev_c) ?_
                      refine l_nil ?_
                      refine then_norm ?_
                      refine hK68 _ _ ?_
                      clear hK68
                      refine c_ret ?_
                      refine block_ret ?_
                      refine then_ret ?_
                      refine then_ret ?_
                      refine block_ret ?_
                      refine then_ret ?_
                      exact body_1 rfl (ev_tv rfl rfl) H
                    · replace H := H.2 hb66
                      have hq67 : Value.bool (!decide ((x28 : Int) = x36)) = Value.bool false := congrArg Value.bool (ndec_f hb66)
                      refine D_pure (i := 15) (v := .bool x29) rfl (by kernel_rfl) (W_yes (dj := 149) rfl rfl rfl hq67) (fun _ => y_move (ev_tv rfl rfl)) hS ?_
                      intro hS
                      rcases Bool.eq_false_or_eq_true x29 with hb69 | hb69
                      · replace H := H.1 hb69
                        have hq70 : Value.bool (x29) = Value.bool true := congrArg Value.bool hb69
                        refine D_pure (i := 16) (v := .bool false) rfl (by kernel_rfl) (W_yes (dj := 149) rfl rfl rfl hq67) (fun _ => y_not_t (ev_tv rfl hq70)) hS ?_
                        intro hS
                        refine D_pure (i := 17) (v := .bool false) rfl (by kernel_rfl) (W_none rfl) (fun _ => y_pick_f (ev_tv rfl hq67) (ev_tv rfl rfl)) hS ?_
                        intro hS
                        refine D_pure (i := 18) (v := .bool false) rfl (by kernel_rfl) (W_none rfl) (fun _ => y_move (ev_tv rfl rfl)) hS ?_
                        intro hS
                        refine D_pure (i := 19) (v := .bool x37) rfl (by kernel_rfl) (W_yes (dj := 153) rfl rfl rfl rfl) (fun _ => y_move (ev_tv rfl rfl)) hS ?_
                        intro hS
                        rcases Bool.eq_false_or_eq_true x37 with hb71 | hb71
                        · replace H := H.1 hb71
                          have hq72 : Value.bool (x37) = Value.bool true := congrArg Value.bool hb71
                          refine D_pure (i := 20) (v := .bool false) rfl (by kernel_rfl) (W_yes (dj := 153) rfl rfl rfl rfl) (fun _ => y_not_t (ev_tv rfl hq72)) hS ?_
                          intro hS
                          refine D_pure (i := 21) (v := .bool false) rfl (by kernel_rfl) (W_none rfl) (fun _ => y_pick_f (ev_tv rfl rfl) (ev_tv rfl rfl)) hS ?_
                          intro hS
                          refine D_done (by kernel_rfl) ?_
                          refine then_norm ?_
                          refine hK54 _ _ ?_
                          clear hK54
                          refine cond_f (ev_tv rfl rfl) ?_
                          refine c_skip ?_
                          refine block_norm ?_
                          refine then_norm ?_
                          refine hK45 _ _ ?_
                          clear hK45
                          refine c_region ?_
                          refine L_val (v := .int .i64 v21) (y_move (ev_tv rfl hs40)) ?_
                          obtain ⟨r45, hr73⟩ : ∃ r45 : Int, r45 = IntKind.wrap .i64 (v21 + 1) := ⟨_, rfl⟩
                          replace H := H r45 hr73
                          refine L_val (v := .int .i64 r45) (y_add (ev_tv rfl rfl) ev_c hr73) ?_
                          refine L_val (v := .int .i64 r45) (y_assign (ev_tv rfl rfl)) ?_
                          refine l_nil ?_
                          refine then_norm ?_
                          obtain ⟨m46, hm74, H⟩ := H
                          exact ⟨_, rfl, (by repeat (first | exact agree_refl | exact hag36 | exact hag23 | refine agree_upd rfl ?_ | refine agree_via hag36 rfl ?_ | refine agree_via hag23 rfl ?_)), m46, hm74, _, rfl, H⟩
                        · replace H := H.2 hb71
                          have hq72 : Value.bool (x37) = Value.bool false := congrArg Value.bool hb71
                          refine D_pure (i := 20) (v := .bool true) rfl (by kernel_rfl) (W_yes (dj := 153) rfl rfl rfl rfl) (fun _ => y_not_f (ev_tv rfl hq72)) hS ?_
                          intro hS
                          refine D_pure (i := 21) (v := .bool true) rfl (by kernel_rfl) (W_none rfl) (fun _ => y_pick_f (ev_tv rfl rfl) (ev_tv rfl rfl)) hS ?_
                          intro hS
                          refine D_done (by kernel_rfl) ?_
                          refine then_norm ?_
                          refine hK54 _ _ ?_
                          clear hK54
                          refine cond_t (ev_tv rfl rfl) ?_
                          refine c_seq ?_
                          intro K75 hK75
                          refine c_region ?_
                          refine L_val (v := .bool false) (y_assign ev_c) ?_
                          refine l_nil ?_
                          refine then_norm ?_
                          refine hK75 _ _ ?_
                          clear hK75
                          refine c_ret ?_
                          refine block_ret ?_
                          refine then_ret ?_
                          refine then_ret ?_
                          refine block_ret ?_
                          refine then_ret ?_
                          exact body_1 rfl (ev_tv rfl rfl) H
                      · replace H := H.2 hb69
                        have hq70 : Value.bool (x29) = Value.bool false := congrArg Value.bool hb69
                        refine D_pure (i := 16) (v := .bool true) rfl (by kernel_rfl) (W_yes (dj := 149) rfl rfl rfl hq67) (fun _ => y_not_f (ev_tv rfl hq70)) hS ?_
                        intro hS
                        refine D_pure (i := 17) (v := .bool true) rfl (by kernel_rfl) (W_none rfl) (fun _ => y_pick_f (ev_tv rfl hq67) (ev_tv rfl rfl)) hS ?_
                        intro hS
                        refine D_pure (i := 18) (v := .bool true) rfl (by kernel_rfl) (W_none rfl) (fun _ => y_move (ev_tv rfl rfl)) hS ?_
                        intro hS
                        refine D_not (i := 19) rfl (by kernel_rfl) (W_no (dj := 153) (b' := true) rfl rfl rfl rfl rfl) hS ?_
                        intro hS
                        refine D_not (i := 20) rfl (by kernel_rfl) (W_no (dj := 153) (b' := true) rfl rfl rfl rfl rfl) hS ?_
                        intro hS
                        refine D_pure (i := 21) (v := .bool true) rfl (by kernel_rfl) (W_none rfl) (fun _ => y_pick_t (ev_tv rfl rfl) ev_c) hS ?_
                        intro hS
                        refine D_done (by kernel_rfl) ?_
                        refine then_norm ?_
                        refine hK54 _ _ ?_
                        clear hK54
                        refine cond_t (ev_tv rfl rfl) ?_
                        refine c_seq ?_
                        intro K76 hK76
                        refine c_region ?_
                        refine L_val (v := .bool false) (y_assign ev_c) ?_
                        refine l_nil ?_
                        refine then_norm ?_
                        refine hK76 _ _ ?_
                        clear hK76
                        refine c_ret ?_
                        refine block_ret ?_
                        refine then_ret ?_
                        refine then_ret ?_
                        refine block_ret ?_
                        refine then_ret ?_
                        exact body_1 rfl (ev_tv rfl rfl) H
                · replace H := H.2 hb43
                  have hq44 : Value.bool (decide ((v21 : Int) < ((x15l : Nat) : Int))) = Value.bool false := congrArg Value.bool (decide_eq_false hb43)
                  refine cond_f (ev_tv rfl hq44) ?_
                  refine c_exit ?_
                  refine then_exit ?_
                  refine then_exit ?_
                  refine block_hit ?_
                  refine then_norm ?_
                  refine hK32 _ _ ?_
                  clear hK32
                  refine c_seq ?_
                  intro K77 hK77
                  refine c_region ?_
                  refine L_val (v := .bool true) (y_assign ev_c) ?_
                  refine l_nil ?_
                  refine then_norm ?_
                  refine hK77 _ _ ?_
                  clear hK77
                  refine c_ret ?_
                  exact body_1 rfl (ev_tv rfl rfl) H
          · replace H := H.2 hb18
            have hq19 : Value.bool (x11) = Value.bool false := congrArg Value.bool hb18
            refine G_val (dj := 40) rfl rfl hq16 (v := .bool true) (y_not_f (ev_tv rfl hq19)) ?_
            refine L_val (v := .bool true) (y_pick_f (ev_tv rfl hq16) (ev_tv rfl rfl)) ?_
            refine l_nil ?_
            refine then_norm ?_
            refine hK5 _ _ ?_
            clear hK5
            refine cond_t (ev_tv rfl rfl) ?_
            refine c_seq ?_
            intro K140 hK140
            refine c_region ?_
            refine L_val (v := .bool false) (y_assign ev_c) ?_
            refine l_nil ?_
            refine then_norm ?_
            refine hK140 _ _ ?_
            clear hK140
            refine c_ret ?_
            refine then_ret ?_
            exact body_1 rfl (ev_tv rfl rfl) H

/-- parapet/parapetlaw07.TlbForgets -/
def Vc5 (a_l1 : Option Addr) (a_l1l : Nat) (a_l1c : Nat) (a_space2 : Int) (w : World) (R : Ending → World → Prop) : Prop :=
  (Calls Try.prog 7 #[.int .i64 4, .int .i64 8] w fun e w5 => ∃ x3 : Option Addr, ∃ x4 : Int, e = .returned (.tuple #[.pointer x3, .int .i64 x4]) ∧ (((¬ ((x4 : Int) = 0)) → R (.returned (.bool false)) w5) ∧ (((x4 : Int) = 0) → (((x3 = none) → R (.returned (.bool false)) w5) ∧ ((x3 ≠ none) → (Calls Try.prog 8 #[] w5 fun e w8 => ∃ x7 : Bool, e = .returned (.bool x7) ∧ (((x7 = true) → (∃ J13 : World → Prop, (∀  (w10 : World), J13  w10 → (∃ I21 : Nat → Int → World → Prop, (∃ m, I21 m 0 w10) ∧ ∀ (m12 : Nat) (v11 : Int) (w13 : World), I21 m12 v11 w13 → ((((v11 : Int) < 4) → (Calls Try.prog 14 #[.pointer x3, .int .i64 v11] w13 fun e w15 => ∃ x14 : Option Addr, ∃ x14l : Nat, ∃ x14c : Nat, e = .returned (.slice x14 x14l x14c) ∧ (Calls Try.prog 15 #[.pointer x3, .int .i64 v11, .int .i64 a_space2] w15 fun e w18 => ∃ x17 : Int, e = .returned (.int .i64 x17) ∧ (Calls Try.prog 14 #[.pointer x3, .int .i64 v11] w18 fun e w21 => ∃ x20 : Option Addr, ∃ x20l : Nat, ∃ x20c : Nat, e = .returned (.slice x20 x20l x20c) ∧ (∃ J37 : Int → World → Prop, (∀ (v23 : Int) (w24 : World), J37 v23 w24 → (((¬ ((v23 : Int) = ((x20l : Nat) : Int))) → R (.returned (.bool false)) w24) ∧ (((v23 : Int) = ((x20l : Nat) : Int)) → (∀ r25 : Int, r25 = IntKind.wrap .i64 (((x14l : Nat) : Int) - ((x20l : Nat) : Int)) → (((¬ ((x17 : Int) = r25)) → R (.returned (.bool false)) w24) ∧ (((x17 : Int) = r25) → (∀ r26 : Int, r26 = IntKind.wrap .i64 (v11 + 1) → (∃ m27, m27 < m12 ∧ I21 m27 r26 w24)))))))) ∧ (∃ I55 : Nat → Int → Int → World → Prop, (∃ m, I55 m 0 0 w21) ∧ ∀ (m30 : Nat) (v28 : Int) (v29 : Int) (w31 : World), I55 m30 v28 v29 w31 → ((((v29 : Int) < ((x14l : Nat) : Int)) → (∃ (b32 o33 : Nat), x14 = some ⟨b32, o33, none⟩ ∧ ((0 : Int) ≤ v29 ∧ v29 < ((x14l : Nat) : Int) ∧ (∃ x34 : Int, World.cell? w31 ⟨b32, o33 + (v29 : Int).toNat * 2, none⟩ = some (.int .i64 x34) ∧ ((((x34 : Int) = a_space2) → ((0 : Int) ≤ v29 ∧ v29 < ((x14l : Nat) : Int) ∧ (∃ x35 : Int, ∃ x36 : Int, CellsAt w31 ⟨b32, o33 + (v29 : Int).toNat * 2, none⟩ [.int .i64 x35, .int .i64 x36] ∧ (Calls Try.prog 16 #[.pointer x3, .int .i64 v11, .agg #[.int .i64 x35, .int .i64 x36]] w31 fun e w39 => ∃ x37 : Int, ∃ x38 : Bool, e = .returned (.tuple #[.int .u32 x37, .bool x38]) ∧ (((x38 = true) → R (.returned (.bool false)) w39) ∧ ((x38 = false) → (∀ r41 : Int, r41 = IntKind.wrap .i64 (v29 + 1) → (∃ m42, m42 < m30 ∧ I55 m42 v28 r41 w39)))))))) ∧ ((¬ ((x34 : Int) = a_space2)) → ((((((x20l : Nat) : Int) : Int) ≤ v28) → R (.returned (.bool false)) (w31.drew)) ∧ ((¬ ((((x20l : Nat) : Int) : Int) ≤ v28)) → (∃ (b43 o44 : Nat), x20 = some ⟨b43, o44, none⟩ ∧ ((0 : Int) ≤ v28 ∧ v28 < ((x20l : Nat) : Int) ∧ ((0 : Int) ≤ v29 ∧ v29 < ((x14l : Nat) : Int) ∧ (∃ x45 : Int, ∃ x46 : Int, CellsAt (w31.drew) ⟨b43, o44 + (v28 : Int).toNat * 2, none⟩ [.int .i64 x45, .int .i64 x46] ∧ (∃ x47 : Int, ∃ x48 : Int, CellsAt (w31.drew) ⟨b32, o33 + (v29 : Int).toNat * 2, none⟩ [.int .i64 x47, .int .i64 x48] ∧ (∃ q49 : Bool, (∀ w' : World, (eqGuard .neq 31 (.tmp 99) (.tmp 103) (.agg #[.int .i64 x45, .int .i64 x46]) (.agg #[.int .i64 x47, .int .i64 x48])).run Try.prog w' = .ok () w') ∧ (∀ w' : World, (binOp .neq 31 (.agg #[.int .i64 x45, .int .i64 x46]) (.agg #[.int .i64 x47, .int .i64 x48])).run Try.prog w' = .ok (.bool q49) w') ∧ (((q49 = true) → R (.returned (.bool false)) (w31.drew)) ∧ ((q49 = false) → (∀ r50 : Int, r50 = IntKind.wrap .i64 (v28 + 1) → (∀ r51 : Int, r51 = IntKind.wrap .i64 (v29 + 1) → (∃ m52, m52 < m30 ∧ I55 m52 r50 r51 (w31.drew)))))))))))))))))))) ∧ ((¬ ((v29 : Int) < ((x14l : Nat) : Int))) → J37 v28 w31)))))))) ∧ ((¬ ((v11 : Int) < 4)) → R (.returned (.bool true)) w13)))) ∧ (∃ I107 : Nat → Int → World → Prop, (∃ m, I107 m 0 w8) ∧ ∀ (m54 : Nat) (v53 : Int) (w55 : World), I107 m54 v53 w55 → ((((v53 : Int) < ((a_l1l : Nat) : Int)) → (∃ (b56 o57 : Nat), a_l1 = some ⟨b56, o57, none⟩ ∧ ((0 : Int) ≤ v53 ∧ v53 < ((a_l1l : Nat) : Int) ∧ ((0 : Int) ≤ v53 ∧ v53 < ((a_l1l : Nat) : Int) ∧ ((0 : Int) ≤ v53 ∧ v53 < ((a_l1l : Nat) : Int) ∧ (∃ x58 : Int, World.cell? (w55.drew) ⟨b56, o57 + (v53 : Int).toNat * 7 + 1, none⟩ = some (.int .i64 x58) ∧ (∃ x59 : Int, ∃ x60 : Int, CellsAt (w55.drew) ⟨b56, o57 + (v53 : Int).toNat * 7 + 2, none⟩ [.int .i64 x59, .int .i64 x60] ∧ (∃ x61 : Int, World.cell? (w55.drew) ⟨b56, o57 + (v53 : Int).toNat * 7 + 4, none⟩ = some (.int .u32 x61) ∧ (Calls Try.prog 9 #[.pointer x3, .int .i64 x58, .agg #[.int .i64 x59, .int .i64 x60], .int .u32 x61] (w55.drew) fun e w63 => ∃ x62 : Int, e = .returned (.int .i64 x62) ∧ (∀ r64 : Int, r64 = IntKind.wrap .i64 (v53 + 1) → (∃ m65, m65 < m54 ∧ I107 m65 r64 w63))))))))))) ∧ ((¬ ((v53 : Int) < ((a_l1l : Nat) : Int))) → J13  w55))))) ∧ ((x7 = false) → R (.returned (.bool false)) w8))))))))

theorem vc5 {a_l1 : Option Addr} {a_l1l : Nat} {a_l1c : Nat} {a_space2 : Int} {w : World} {R : Ending → World → Prop} (H : Vc5 a_l1 a_l1l a_l1c a_space2 w R) : Calls Try.prog 5 #[.slice a_l1 a_l1l a_l1c, .int .i64 a_space2] w R := by
  unfold Vc5 at H
  refine calls_start [.slice a_l1 a_l1l a_l1c, .int .i64 a_space2] Try.func5 rfl Try.ntmps5 rfl ?_
  refine c_seq ?_
  intro K1 hK1
  refine c_region ?_
  refine L_val (v := .bool false) (y_assign ev_c) ?_
  refine l_nil ?_
  refine then_norm ?_
  refine hK1 _ _ ?_
  clear hK1
  refine c_seq ?_
  intro K2 hK2
  refine c_region ?_
  refine L_call (y_call Try.call7 (map_ev2 ev_c ev_c) ev_f) (Calls.mono H ?_)
  clear H
  rintro _ w5 ⟨x3, x4, rfl, H⟩
  refine ⟨_, rfl, ?_⟩
  refine L_val (v := .tuple #[.pointer x3, .int .i64 x4]) (y_move (ev_tv rfl rfl)) ?_
  refine L_val (v := .pointer x3) (y_extract (ev_tv rfl rfl) rfl) ?_
  refine L_val (v := .int .i64 x4) (y_extract (ev_tv rfl rfl) rfl) ?_
  refine L_val (v := .pointer x3) (y_assign (ev_tv rfl rfl)) ?_
  refine L_val (v := .int .i64 x4) (y_assign (ev_tv rfl rfl)) ?_
  refine l_nil ?_
  refine then_norm ?_
  refine hK2 _ _ ?_
  clear hK2
  refine c_seq ?_
  intro K3 hK3
  refine c_seq ?_
  intro K4 hK4
  refine c_region ?_
  refine L_val (v := .int .i64 x4) (y_move (ev_tv rfl rfl)) ?_
  refine L_val (v := .bool (!decide ((x4 : Int) = 0))) (y_ine (ev_tv rfl rfl) ev_c) ?_
  refine L_val (v := .bool (!decide ((x4 : Int) = 0))) (y_move (ev_tv rfl rfl)) ?_
  rcases (Decidable.em ((x4 : Int) = 0)).symm with hb5 | hb5
  · replace H := H.1 hb5
    have hq6 : Value.bool (!decide ((x4 : Int) = 0)) = Value.bool true := congrArg Value.bool (ndec_t hb5)
    refine G_not (b' := true) (dj := 22) rfl rfl hq6 rfl ?_
    refine G_not (b' := true) (dj := 22) rfl rfl hq6 rfl ?_
    refine L_val (v := .bool true) (y_pick_t (ev_tv rfl hq6) ev_c) ?_
    refine L_val (v := .bool true) (y_move (ev_tv rfl rfl)) ?_
    refine G_not (b' := true) (dj := 26) rfl rfl rfl rfl ?_
    refine G_not (b' := true) (dj := 26) rfl rfl rfl rfl ?_
    refine L_val (v := .bool true) (y_pick_t (ev_tv rfl rfl) ev_c) ?_
    refine l_nil ?_
    refine then_norm ?_
    refine hK4 _ _ ?_
    clear hK4
    refine cond_t (ev_tv rfl rfl) ?_
    refine c_seq ?_
    intro K7 hK7
    refine c_region ?_
    refine L_val (v := .bool false) (y_assign ev_c) ?_
    refine l_nil ?_
    refine then_norm ?_
    refine hK7 _ _ ?_
    clear hK7
    refine c_ret ?_
    refine then_ret ?_
    exact body_1 rfl (ev_tv rfl rfl) H
  · replace H := H.2 hb5
    have hq6 : Value.bool (!decide ((x4 : Int) = 0)) = Value.bool false := congrArg Value.bool (ndec_f hb5)
    refine G_val (dj := 22) rfl rfl hq6 (v := .pointer x3) (y_move (ev_tv rfl rfl)) ?_
    refine G_val (dj := 22) rfl rfl hq6 (v := .bool (x3.isNone)) (y_peq Try.underlying24 (ev_tv rfl rfl) ev_c) ?_
    refine L_val (v := .bool (x3.isNone)) (y_pick_f (ev_tv rfl hq6) (ev_tv rfl rfl)) ?_
    refine L_val (v := .bool (x3.isNone)) (y_move (ev_tv rfl rfl)) ?_
    rcases (Classical.em (x3 = none)) with hb8 | hb8
    · replace H := H.1 hb8
      have hq9 : Value.bool (x3.isNone) = Value.bool true := congrArg Value.bool (isn_t hb8)
      refine G_not (b' := true) (dj := 26) rfl rfl hq9 rfl ?_
      refine G_not (b' := true) (dj := 26) rfl rfl hq9 rfl ?_
      refine L_val (v := .bool true) (y_pick_t (ev_tv rfl hq9) ev_c) ?_
      refine l_nil ?_
      refine then_norm ?_
      refine hK4 _ _ ?_
      clear hK4
      refine cond_t (ev_tv rfl rfl) ?_
      refine c_seq ?_
      intro K10 hK10
      refine c_region ?_
      refine L_val (v := .bool false) (y_assign ev_c) ?_
      refine l_nil ?_
      refine then_norm ?_
      refine hK10 _ _ ?_
      clear hK10
      refine c_ret ?_
      refine then_ret ?_
      exact body_1 rfl (ev_tv rfl rfl) H
    · replace H := H.2 hb8
      have hq9 : Value.bool (x3.isNone) = Value.bool false := congrArg Value.bool (isn_f hb8)
      refine G_call (dj := 26) rfl rfl hq9 (y_call Try.call8 map_ev0 ev_f) (Calls.mono H ?_)
      clear H
      rintro _ w8 ⟨x7, rfl, H⟩
      refine ⟨_, rfl, ?_⟩
      rcases Bool.eq_false_or_eq_true x7 with hb11 | hb11
      · replace H := H.1 hb11
        have hq12 : Value.bool (x7) = Value.bool true := congrArg Value.bool hb11
        refine G_val (dj := 26) rfl rfl hq9 (v := .bool false) (y_not_t (ev_tv rfl hq12)) ?_
        refine L_val (v := .bool false) (y_pick_f (ev_tv rfl hq9) (ev_tv rfl rfl)) ?_
        refine l_nil ?_
        refine then_norm ?_
        refine hK4 _ _ ?_
        clear hK4
        refine cond_f (ev_tv rfl rfl) ?_
        refine c_skip ?_
        refine then_norm ?_
        refine hK3 _ _ ?_
        clear hK3
        obtain ⟨J13, hJ14, H⟩ := H
        refine c_seqJ [(7, 7), (30, 52)] (fun ff ww => J13  ww) ?_ ?_
        · clear hJ14
          intro K18 hK18
          refine c_seq ?_
          intro K106 hK106
          refine c_region ?_
          refine L_val (v := .int .i64 0) (y_assign ev_c) ?_
          refine l_nil ?_
          refine then_norm ?_
          refine hK106 _ _ ?_
          clear hK106
          refine c_block ?_
          obtain ⟨I107, ⟨m111, HI112⟩, H⟩ := H
          refine loop_fr ([(7, 7), (30, 52)]) (fun m ff ww => ∃ (v53 : Int), ff 7 = (.int .i64 v53 : Value) ∧ I107 m v53 ww) m111 ⟨0, rfl, HI112⟩ ?_
          rintro m54 f108 w55 hag109 ⟨v53, hs113, HI110⟩
          replace H := H m54 v53 w55 HI110
          refine c_seq ?_
          intro K114 hK114
          refine c_seq ?_
          intro K115 hK115
          refine c_region ?_
          refine L_val (v := .int .i64 v53) (y_move (ev_tv rfl hs113)) ?_
          refine L_val (v := .slice a_l1 a_l1l a_l1c) (y_move (ev_tv rfl ((hag109 0 rfl).trans rfl))) ?_
          refine L_val (v := .int .i64 ((a_l1l : Nat) : Int)) (y_len Try.underlying22 rfl (map_ev1 (ev_tv rfl rfl))) ?_
          refine L_val (v := .bool (decide ((v53 : Int) < ((a_l1l : Nat) : Int)))) (y_lss (ev_tv rfl rfl) (ev_tv rfl rfl)) ?_
          refine l_nil ?_
          refine then_norm ?_
          refine hK115 _ _ ?_
          clear hK115
          rcases (Decidable.em ((v53 : Int) < ((a_l1l : Nat) : Int))) with hb116 | hb116
          · replace H := H.1 hb116
            have hq117 : Value.bool (decide ((v53 : Int) < ((a_l1l : Nat) : Int))) = Value.bool true := congrArg Value.bool (decide_eq_true hb116)
            refine cond_t (ev_tv rfl hq117) ?_
            refine c_skip ?_
            refine then_norm ?_
            refine hK114 _ _ ?_
            clear hK114
            refine c_seq ?_
            intro K118 hK118
            refine c_block ?_
            refine D_start Try.mixed rfl [16] ?_
            refine start_keep fun hS => ?_
            refine D_pure (i := 0) (v := .pointer x3) rfl (by kernel_rfl) (W_none rfl) (fun _ => y_move (ev_tv rfl ((hag109 5 rfl).trans rfl))) hS ?_
            intro hS
            refine D_pure (i := 1) (v := .slice a_l1 a_l1l a_l1c) rfl (by kernel_rfl) (W_none rfl) (fun _ => y_move (ev_tv rfl ((hag109 0 rfl).trans rfl))) hS ?_
            intro hS
            refine D_pure (i := 2) (v := .int .i64 v53) rfl (by kernel_rfl) (W_none rfl) (fun _ => y_move (ev_tv rfl hs113)) hS ?_
            intro hS
            obtain ⟨b56, o57, rfl, H⟩ := H
            obtain ⟨hi119, hi120, H⟩ := H
            refine D_pure (i := 3) (v := .pointer (some ⟨b56, o57 + (v53 : Int).toNat * 7, none⟩)) rfl (by kernel_rfl) (W_none rfl) (fun _ => y_ix Try.underlying22 Try.type34 rfl (ev_tv rfl rfl) (ev_tv rfl rfl) hi119 hi120) hS ?_
            intro hS
            refine D_pure (i := 4) (v := .pointer (some ⟨b56, o57 + (v53 : Int).toNat * 7 + 1, none⟩)) rfl (by kernel_rfl) (W_none rfl) (fun _ => Try.fa34_1 (ev_tv rfl rfl)) hS ?_
            intro hS
            refine D_pure (i := 6) (v := .slice (some ⟨b56, o57, none⟩) a_l1l a_l1c) rfl (by kernel_rfl) (W_none rfl) (fun _ => y_move (ev_tv rfl ((hag109 0 rfl).trans rfl))) hS ?_
            intro hS
            refine D_pure (i := 7) (v := .int .i64 v53) rfl (by kernel_rfl) (W_none rfl) (fun _ => y_move (ev_tv rfl hs113)) hS ?_
            intro hS
            obtain ⟨hi121, hi122, H⟩ := H
            refine D_pure (i := 8) (v := .pointer (some ⟨b56, o57 + (v53 : Int).toNat * 7, none⟩)) rfl (by kernel_rfl) (W_none rfl) (fun _ => y_ix Try.underlying22 Try.type34 rfl (ev_tv rfl rfl) (ev_tv rfl rfl) hi121 hi122) hS ?_
            intro hS
            refine D_pure (i := 9) (v := .pointer (some ⟨b56, o57 + (v53 : Int).toNat * 7 + 2, none⟩)) rfl (by kernel_rfl) (W_none rfl) (fun _ => Try.fa34_2 (ev_tv rfl rfl)) hS ?_
            intro hS
            refine D_pure (i := 11) (v := .slice (some ⟨b56, o57, none⟩) a_l1l a_l1c) rfl (by kernel_rfl) (W_none rfl) (fun _ => y_move (ev_tv rfl ((hag109 0 rfl).trans rfl))) hS ?_
            intro hS
            refine D_pure (i := 12) (v := .int .i64 v53) rfl (by kernel_rfl) (W_none rfl) (fun _ => y_move (ev_tv rfl hs113)) hS ?_
            intro hS
            obtain ⟨hi123, hi124, H⟩ := H
            refine D_pure (i := 13) (v := .pointer (some ⟨b56, o57 + (v53 : Int).toNat * 7, none⟩)) rfl (by kernel_rfl) (W_none rfl) (fun _ => y_ix Try.underlying22 Try.type34 rfl (ev_tv rfl rfl) (ev_tv rfl rfl) hi123 hi124) hS ?_
            intro hS
            refine D_pure (i := 14) (v := .pointer (some ⟨b56, o57 + (v53 : Int).toNat * 7 + 4, none⟩)) rfl (by kernel_rfl) (W_none rfl) (fun _ => Try.fa34_3 (ev_tv rfl rfl)) hS ?_
            intro hS
            obtain ⟨x58, hc125, H⟩ := H
            refine D_read (i := 5) (v := .int .i64 x58) rfl (by kernel_rfl) (W_none rfl) (fun wx => World.cell? wx ⟨b56, o57 + (v53 : Int).toNat * 7 + 1, none⟩ = some (.int .i64 x58)) hc125 (fun _ hcx => y_load Try.underlying3 rfl (ev_tv rfl rfl) hcx) hS ?_
            intro hS
            obtain ⟨x59, x60, hc126, H⟩ := H
            refine D_read (i := 10) (v := .agg #[.int .i64 x59, .int .i64 x60]) rfl (by kernel_rfl) (W_none rfl) (fun wx => CellsAt wx ⟨b56, o57 + (v53 : Int).toNat * 7 + 2, none⟩ [.int .i64 x59, .int .i64 x60]) hc126 (fun _ hcx => y_loadAgg Try.underlying31 rfl Try.type31 rfl (ev_tv rfl rfl) hcx) hS ?_
            intro hS
            obtain ⟨x61, hc127, H⟩ := H
            refine D_read (i := 15) (v := .int .u32 x61) rfl (by kernel_rfl) (W_none rfl) (fun wx => World.cell? wx ⟨b56, o57 + (v53 : Int).toNat * 7 + 4, none⟩ = some (.int .u32 x61)) hc127 (fun _ hcx => y_load Try.underlying32 rfl (ev_tv rfl rfl) hcx) hS ?_
            intro hS
            refine D_only (i := 16) (by kernel_rfl) rfl ?_
            refine O_call (i := 16) rfl (W_none rfl) (y_call Try.call9 (map_ev4 (ev_tv rfl rfl) (ev_tv rfl rfl) (ev_tv rfl rfl) (ev_tv rfl rfl)) ev_f) (Calls.mono H ?_)
            clear H
            rintro _ w63 ⟨x62, rfl, H⟩
            refine ⟨_, rfl, ?_⟩
            refine and_keep (SS_off (by kernel_rfl) (SS_off (by kernel_rfl) (SS_off (by kernel_rfl) SS_nil))) fun hS => ?_
            refine D_done (by kernel_rfl) ?_
            refine block_norm ?_
            refine then_norm ?_
            refine hK118 _ _ ?_
            clear hK118
            refine c_region ?_
            refine L_val (v := .int .i64 v53) (y_move (ev_tv rfl hs113)) ?_
            obtain ⟨r64, hr128⟩ : ∃ r64 : Int, r64 = IntKind.wrap .i64 (v53 + 1) := ⟨_, rfl⟩
            replace H := H r64 hr128
            refine L_val (v := .int .i64 r64) (y_add (ev_tv rfl rfl) ev_c hr128) ?_
            refine L_val (v := .int .i64 r64) (y_assign (ev_tv rfl rfl)) ?_
            refine l_nil ?_
            refine then_norm ?_
            obtain ⟨m65, hm129, H⟩ := H
            exact ⟨_, rfl, (by repeat (first | exact agree_refl | exact hag109 | refine agree_upd rfl ?_ | refine agree_via hag109 rfl ?_)), m65, hm129, _, rfl, H⟩
          · replace H := H.2 hb116
            have hq117 : Value.bool (decide ((v53 : Int) < ((a_l1l : Nat) : Int))) = Value.bool false := congrArg Value.bool (decide_eq_false hb116)
            refine cond_f (ev_tv rfl hq117) ?_
            refine c_exit ?_
            refine then_exit ?_
            refine then_exit ?_
            refine block_hit ?_
            refine then_norm ?_
            exact hK18 _ _ (by repeat (first | exact agree_refl | exact hag109 | refine agree_upd rfl ?_ | refine agree_via hag109 rfl ?_)) H
        · clear H
          intro f15 w10 hag16 HJ17
          have H := hJ14  w10 HJ17
          clear hJ14
          refine c_seq ?_
          intro K19 hK19
          refine c_seq ?_
          intro K20 hK20
          refine c_region ?_
          refine L_val (v := .int .i64 0) (y_assign ev_c) ?_
          refine l_nil ?_
          refine then_norm ?_
          refine hK20 _ _ ?_
          clear hK20
          refine c_block ?_
          obtain ⟨I21, ⟨m25, HI26⟩, H⟩ := H
          refine loop_fr ([(4, 4), (8, 15), (53, 120)]) (fun m ff ww => ∃ (v11 : Int), ff 8 = (.int .i64 v11 : Value) ∧ I21 m v11 ww) m25 ⟨0, rfl, HI26⟩ ?_
          rintro m12 f22 w13 hag23 ⟨v11, hs27, HI24⟩
          replace H := H m12 v11 w13 HI24
          refine c_seq ?_
          intro K28 hK28
          refine c_seq ?_
          intro K29 hK29
          refine c_region ?_
          refine L_val (v := .int .i64 v11) (y_move (ev_tv rfl hs27)) ?_
          refine L_val (v := .bool (decide ((v11 : Int) < 4))) (y_lss (ev_tv rfl rfl) ev_c) ?_
          refine l_nil ?_
          refine then_norm ?_
          refine hK29 _ _ ?_
          clear hK29
          rcases (Decidable.em ((v11 : Int) < 4)) with hb30 | hb30
          · replace H := H.1 hb30
            have hq31 : Value.bool (decide ((v11 : Int) < 4)) = Value.bool true := congrArg Value.bool (decide_eq_true hb30)
            refine cond_t (ev_tv rfl hq31) ?_
            refine c_skip ?_
            refine then_norm ?_
            refine hK28 _ _ ?_
            clear hK28
            refine c_seq ?_
            intro K32 hK32
            refine c_block ?_
            refine c_seq ?_
            intro K33 hK33
            refine c_region ?_
            refine L_val (v := .pointer x3) (y_move (ev_tv rfl ((hag23 5 rfl).trans ((hag16 5 rfl).trans rfl)))) ?_
            refine L_val (v := .int .i64 v11) (y_move (ev_tv rfl hs27)) ?_
            refine L_call (y_call Try.call14 (map_ev2 (ev_tv rfl rfl) (ev_tv rfl rfl)) ev_f) (Calls.mono H ?_)
            clear H
            rintro _ w15 ⟨x14, x14l, x14c, rfl, H⟩
            refine ⟨_, rfl, ?_⟩
            refine L_val (v := .slice x14 x14l x14c) (y_assign (ev_tv rfl rfl)) ?_
            refine l_nil ?_
            refine then_norm ?_
            refine hK33 _ _ ?_
            clear hK33
            refine c_seq ?_
            intro K34 hK34
            refine c_region ?_
            refine L_val (v := .pointer x3) (y_move (ev_tv rfl ((hag23 5 rfl).trans ((hag16 5 rfl).trans rfl)))) ?_
            refine L_val (v := .int .i64 v11) (y_move (ev_tv rfl hs27)) ?_
            refine L_val (v := .int .i64 a_space2) (y_move (ev_tv rfl ((hag23 1 rfl).trans ((hag16 1 rfl).trans rfl)))) ?_
            refine L_call (y_call Try.call15 (map_ev3 (ev_tv rfl rfl) (ev_tv rfl rfl) (ev_tv rfl rfl)) ev_f) (Calls.mono H ?_)
            clear H
            rintro _ w18 ⟨x17, rfl, H⟩
            refine ⟨_, rfl, ?_⟩
            refine L_val (v := .int .i64 x17) (y_assign (ev_tv rfl rfl)) ?_
            refine l_nil ?_
            refine then_norm ?_
            refine hK34 _ _ ?_
            clear hK34
            refine c_seq ?_
            intro K35 hK35
            refine c_region ?_
            refine L_val (v := .pointer x3) (y_move (ev_tv rfl ((hag23 5 rfl).trans ((hag16 5 rfl).trans rfl)))) ?_
            refine L_val (v := .int .i64 v11) (y_move (ev_tv rfl hs27)) ?_
            refine L_call (y_call Try.call14 (map_ev2 (ev_tv rfl rfl) (ev_tv rfl rfl)) ev_f) (Calls.mono H ?_)
            clear H
            rintro _ w21 ⟨x20, x20l, x20c, rfl, H⟩
            refine ⟨_, rfl, ?_⟩
            refine L_val (v := .slice x20 x20l x20c) (y_assign (ev_tv rfl rfl)) ?_
            refine l_nil ?_
            refine then_norm ?_
            refine hK35 _ _ ?_
            clear hK35
            refine c_seq ?_
            intro K36 hK36
            refine c_region ?_
            refine L_val (v := .int .i64 0) (y_assign ev_c) ?_
            refine l_nil ?_
            refine then_norm ?_
            refine hK36 _ _ ?_
            clear hK36
            obtain ⟨J37, hJ38, H⟩ := H
            refine c_seqJ [(4, 4), (12, 15), (67, 107)] (fun ff ww => ∃ (v23 : Int), ff 12 = (.int .i64 v23 : Value) ∧ J37 v23 ww) ?_ ?_
            · clear hJ38
              intro K42 hK42
              refine c_seq ?_
              intro K54 hK54
              refine c_region ?_
              refine L_val (v := .int .i64 0) (y_assign ev_c) ?_
              refine l_nil ?_
              refine then_norm ?_
              refine hK54 _ _ ?_
              clear hK54
              refine c_block ?_
              obtain ⟨I55, ⟨m59, HI60⟩, H⟩ := H
              refine loop_fr ([(4, 4), (12, 15), (67, 107)]) (fun m ff ww => ∃ (v28 : Int) (v29 : Int), ff 12 = (.int .i64 v28 : Value) ∧ ff 13 = (.int .i64 v29 : Value) ∧ I55 m v28 v29 ww) m59 ⟨0, 0, rfl, rfl, HI60⟩ ?_
              rintro m30 f56 w31 hag57 ⟨v28, v29, hs61, hs62, HI58⟩
              replace H := H m30 v28 v29 w31 HI58
              refine c_seq ?_
              intro K63 hK63
              refine c_seq ?_
              intro K64 hK64
              refine c_region ?_
              refine L_val (v := .int .i64 v29) (y_move (ev_tv rfl hs62)) ?_
              refine L_val (v := .slice x14 x14l x14c) (y_move (ev_tv rfl ((hag57 9 rfl).trans rfl))) ?_
              refine L_val (v := .int .i64 ((x14l : Nat) : Int)) (y_len Try.underlying40 rfl (map_ev1 (ev_tv rfl rfl))) ?_
              refine L_val (v := .bool (decide ((v29 : Int) < ((x14l : Nat) : Int)))) (y_lss (ev_tv rfl rfl) (ev_tv rfl rfl)) ?_
              refine l_nil ?_
              refine then_norm ?_
              refine hK64 _ _ ?_
              clear hK64
              rcases (Decidable.em ((v29 : Int) < ((x14l : Nat) : Int))) with hb65 | hb65
              · replace H := H.1 hb65
                have hq66 : Value.bool (decide ((v29 : Int) < ((x14l : Nat) : Int))) = Value.bool true := congrArg Value.bool (decide_eq_true hb65)
                refine cond_t (ev_tv rfl hq66) ?_
                refine c_skip ?_
                refine then_norm ?_
                refine hK63 _ _ ?_
                clear hK63
                refine c_seq ?_
                intro K67 hK67
                refine c_block ?_
                refine c_seq ?_
                intro K68 hK68
                refine c_seq ?_
                intro K69 hK69
                refine c_region ?_
                refine L_val (v := .slice x14 x14l x14c) (y_move (ev_tv rfl ((hag57 9 rfl).trans rfl))) ?_
                refine L_val (v := .int .i64 v29) (y_move (ev_tv rfl hs62)) ?_
                obtain ⟨b32, o33, rfl, H⟩ := H
                obtain ⟨hi70, hi71, H⟩ := H
                refine L_val (v := .pointer (some ⟨b32, o33 + (v29 : Int).toNat * 2, none⟩)) (y_ix Try.underlying40 Try.type31 rfl (ev_tv rfl rfl) (ev_tv rfl rfl) hi70 hi71) ?_
                refine L_val (v := .pointer (some ⟨b32, o33 + (v29 : Int).toNat * 2, none⟩)) (Try.fa31_0 (ev_tv rfl rfl)) ?_
                obtain ⟨x34, hc72, H⟩ := H
                refine L_val (v := .int .i64 x34) (y_load Try.underlying3 rfl (ev_tv rfl rfl) hc72) ?_
                refine L_val (v := .int .i64 a_space2) (y_move (ev_tv rfl ((hag57 1 rfl).trans ((hag23 1 rfl).trans ((hag16 1 rfl).trans rfl))))) ?_
                refine L_val (v := .bool (decide ((x34 : Int) = a_space2))) (y_ieq (ev_tv rfl rfl) (ev_tv rfl rfl)) ?_
                refine l_nil ?_
                refine then_norm ?_
                refine hK69 _ _ ?_
                clear hK69
                rcases (Decidable.em ((x34 : Int) = a_space2)) with hb73 | hb73
                · replace H := H.1 hb73
                  have hq74 : Value.bool (decide ((x34 : Int) = a_space2)) = Value.bool true := congrArg Value.bool (decide_eq_true hb73)
                  refine cond_t (ev_tv rfl hq74) ?_
                  refine c_seq ?_
                  intro K75 hK75
                  refine c_seq ?_
                  intro K76 hK76
                  refine c_region ?_
                  refine L_val (v := .pointer x3) (y_move (ev_tv rfl ((hag57 5 rfl).trans ((hag23 5 rfl).trans ((hag16 5 rfl).trans rfl))))) ?_
                  refine L_val (v := .int .i64 v11) (y_move (ev_tv rfl ((hag57 8 rfl).trans hs27))) ?_
                  refine L_val (v := .slice (some ⟨b32, o33, none⟩) x14l x14c) (y_move (ev_tv rfl ((hag57 9 rfl).trans rfl))) ?_
                  refine L_val (v := .int .i64 v29) (y_move (ev_tv rfl hs62)) ?_
                  obtain ⟨hi77, hi78, H⟩ := H
                  refine L_val (v := .pointer (some ⟨b32, o33 + (v29 : Int).toNat * 2, none⟩)) (y_ix Try.underlying40 Try.type31 rfl (ev_tv rfl rfl) (ev_tv rfl rfl) hi77 hi78) ?_
                  obtain ⟨x35, x36, hc79, H⟩ := H
                  refine L_val (v := .agg #[.int .i64 x35, .int .i64 x36]) (y_loadAgg Try.underlying31 rfl Try.type31 rfl (ev_tv rfl rfl) hc79) ?_
                  refine L_call (y_call Try.call16 (map_ev3 (ev_tv rfl rfl) (ev_tv rfl rfl) (ev_tv rfl rfl)) ev_f) (Calls.mono H ?_)
                  clear H
                  rintro _ w39 ⟨x37, x38, rfl, H⟩
                  refine ⟨_, rfl, ?_⟩
                  refine L_val (v := .tuple #[.int .u32 x37, .bool x38]) (y_move (ev_tv rfl rfl)) ?_
                  refine L_val (v := .int .u32 x37) (y_extract (ev_tv rfl rfl) rfl) ?_
                  refine L_val (v := .bool x38) (y_extract (ev_tv rfl rfl) rfl) ?_
                  refine L_val (v := .int .u32 x37) (y_assign (ev_tv rfl rfl)) ?_
                  refine L_val (v := .bool x38) (y_assign (ev_tv rfl rfl)) ?_
                  refine l_nil ?_
                  refine then_norm ?_
                  refine hK76 _ _ ?_
                  clear hK76
                  refine c_seq ?_
                  intro K80 hK80
                  refine c_region ?_
                  refine L_val (v := .bool x38) (y_move (ev_tv rfl rfl)) ?_
                  refine l_nil ?_
                  refine then_norm ?_
                  refine hK80 _ _ ?_
                  clear hK80
                  rcases Bool.eq_false_or_eq_true x38 with hb81 | hb81
                  · replace H := H.1 hb81
                    have hq82 : Value.bool (x38) = Value.bool true := congrArg Value.bool hb81
                    refine cond_t (ev_tv rfl hq82) ?_
                    refine c_seq ?_
                    intro K83 hK83
                    refine c_region ?_
                    refine L_val (v := .bool false) (y_assign ev_c) ?_
                    refine l_nil ?_
                    refine then_norm ?_
                    refine hK83 _ _ ?_
                    clear hK83
                    refine c_ret ?_
                    refine then_ret ?_
                    refine then_ret ?_
                    refine block_ret ?_
                    refine then_ret ?_
                    refine then_ret ?_
                    refine block_ret ?_
                    refine then_ret ?_
                    refine block_ret ?_
                    refine then_ret ?_
                    refine then_ret ?_
                    refine block_ret ?_
                    refine then_ret ?_
                    exact body_1 rfl (ev_tv rfl rfl) H
                  · replace H := H.2 hb81
                    have hq82 : Value.bool (x38) = Value.bool false := congrArg Value.bool hb81
                    refine cond_f (ev_tv rfl hq82) ?_
                    refine c_skip ?_
                    refine then_norm ?_
                    refine hK75 _ _ ?_
                    clear hK75
                    refine c_exit ?_
                    refine then_exit ?_
                    refine block_hit ?_
                    refine then_norm ?_
                    refine hK67 _ _ ?_
                    clear hK67
                    refine c_region ?_
                    refine L_val (v := .int .i64 v29) (y_move (ev_tv rfl hs62)) ?_
                    obtain ⟨r41, hr84⟩ : ∃ r41 : Int, r41 = IntKind.wrap .i64 (v29 + 1) := ⟨_, rfl⟩
                    replace H := H r41 hr84
                    refine L_val (v := .int .i64 r41) (y_add (ev_tv rfl rfl) ev_c hr84) ?_
                    refine L_val (v := .int .i64 r41) (y_assign (ev_tv rfl rfl)) ?_
                    refine l_nil ?_
                    refine then_norm ?_
                    obtain ⟨m42, hm85, H⟩ := H
                    exact ⟨_, rfl, (by repeat (first | exact agree_refl | exact hag57 | exact hag23 | exact hag16 | refine agree_upd rfl ?_ | refine agree_via hag57 rfl ?_ | refine agree_via hag23 rfl ?_ | refine agree_via hag16 rfl ?_)), m42, hm85, _, _, hs61, rfl, H⟩
                · replace H := H.2 hb73
                  have hq74 : Value.bool (decide ((x34 : Int) = a_space2)) = Value.bool false := congrArg Value.bool (decide_eq_false hb73)
                  refine cond_f (ev_tv rfl hq74) ?_
                  refine c_skip ?_
                  refine then_norm ?_
                  refine hK68 _ _ ?_
                  clear hK68
                  refine c_seq ?_
                  intro K86 hK86
                  refine c_seq ?_
                  intro K87 hK87
                  refine D_start Try.mixed rfl [] ?_
                  refine start_keep fun hS => ?_
                  refine D_pure (i := 0) (v := .int .i64 v28) rfl (by kernel_rfl) (W_none rfl) (fun _ => y_move (ev_tv rfl hs61)) hS ?_
                  intro hS
                  refine D_pure (i := 1) (v := .slice x20 x20l x20c) rfl (by kernel_rfl) (W_none rfl) (fun _ => y_move (ev_tv rfl ((hag57 11 rfl).trans rfl))) hS ?_
                  intro hS
                  refine D_pure (i := 2) (v := .int .i64 ((x20l : Nat) : Int)) rfl (by kernel_rfl) (W_none rfl) (fun _ => y_len Try.underlying40 rfl (map_ev1 (ev_tv rfl rfl))) hS ?_
                  intro hS
                  refine D_pure (i := 3) (v := .bool (decide ((((x20l : Nat) : Int) : Int) ≤ v28))) rfl (by kernel_rfl) (W_none rfl) (fun _ => y_geq (ev_tv rfl rfl) (ev_tv rfl rfl)) hS ?_
                  intro hS
                  refine D_pure (i := 4) (v := .bool (decide ((((x20l : Nat) : Int) : Int) ≤ v28))) rfl (by kernel_rfl) (W_none rfl) (fun _ => y_move (ev_tv rfl rfl)) hS ?_
                  intro hS
                  rcases (Decidable.em ((((x20l : Nat) : Int) : Int) ≤ v28)) with hb88 | hb88
                  · replace H := H.1 hb88
                    have hq89 : Value.bool (decide ((((x20l : Nat) : Int) : Int) ≤ v28)) = Value.bool true := congrArg Value.bool (decide_eq_true hb88)
                    refine D_not (i := 5) rfl (by kernel_rfl) (W_no (dj := 95) (b' := true) rfl rfl rfl hq89 rfl) hS ?_
                    intro hS
                    refine D_not (i := 6) rfl (by kernel_rfl) (W_no (dj := 95) (b' := true) rfl rfl rfl hq89 rfl) hS ?_
                    intro hS
                    refine D_not (i := 7) rfl (by kernel_rfl) (W_no (dj := 95) (b' := true) rfl rfl rfl hq89 rfl) hS ?_
                    intro hS
                    refine D_not (i := 8) rfl (by kernel_rfl) (W_no (dj := 95) (b' := true) rfl rfl rfl hq89 rfl) hS ?_
                    intro hS
                    refine D_not (i := 9) rfl (by kernel_rfl) (W_no (dj := 95) (b' := true) rfl rfl rfl hq89 rfl) hS ?_
                    intro hS
                    refine D_not (i := 10) rfl (by kernel_rfl) (W_no (dj := 95) (b' := true) rfl rfl rfl hq89 rfl) hS ?_
                    intro hS
                    refine D_not (i := 11) rfl (by kernel_rfl) (W_no (dj := 95) (b' := true) rfl rfl rfl hq89 rfl) hS ?_
                    intro hS
                    refine D_not (i := 12) rfl (by kernel_rfl) (W_no (dj := 95) (b' := true) rfl rfl rfl hq89 rfl) hS ?_
                    intro hS
                    refine D_not (i := 13) rfl (by kernel_rfl) (W_no (dj := 95) (b' := true) rfl rfl rfl hq89 rfl) hS ?_
                    intro hS
                    refine D_pure (i := 14) (v := .bool true) rfl (by kernel_rfl) (W_none rfl) (fun _ => y_pick_t (ev_tv rfl hq89) ev_c) hS ?_
                    intro hS
                    refine D_done (by kernel_rfl) ?_
                    refine then_norm ?_
                    refine hK87 _ _ ?_
                    clear hK87
                    refine cond_t (ev_tv rfl rfl) ?_
                    refine c_seq ?_
                    intro K90 hK90
                    refine c_region ?_
                    refine L_val (v := .bool false) (y_assign ev_c) ?_
                    refine l_nil ?_
                    refine then_norm ?_
                    refine hK90 _ _ ?_
                    clear hK90
                    refine c_ret ?_
                    refine then_ret ?_
                    refine block_ret ?_
                    refine then_ret ?_
                    refine then_ret ?_
                    refine block_ret ?_
                    refine then_ret ?_
                    refine block_ret ?_
                    refine then_ret ?_
                    refine then_ret ?_
                    refine block_ret ?_
                    refine then_ret ?_
                    exact body_1 rfl (ev_tv rfl rfl) H
                  · replace H := H.2 hb88
                    have hq89 : Value.bool (decide ((((x20l : Nat) : Int) : Int) ≤ v28)) = Value.bool false := congrArg Value.bool (decide_eq_false hb88)
                    refine D_pure (i := 5) (v := .slice x20 x20l x20c) rfl (by kernel_rfl) (W_yes (dj := 95) rfl rfl rfl hq89) (fun _ => y_move (ev_tv rfl ((hag57 11 rfl).trans rfl))) hS ?_
                    intro hS
                    refine D_pure (i := 6) (v := .int .i64 v28) rfl (by kernel_rfl) (W_yes (dj := 95) rfl rfl rfl hq89) (fun _ => y_move (ev_tv rfl hs61)) hS ?_
                    intro hS
                    obtain ⟨b43, o44, rfl, H⟩ := H
                    obtain ⟨hi91, hi92, H⟩ := H
                    refine D_pure (i := 7) (v := .pointer (some ⟨b43, o44 + (v28 : Int).toNat * 2, none⟩)) rfl (by kernel_rfl) (W_yes (dj := 95) rfl rfl rfl hq89) (fun _ => y_ix Try.underlying40 Try.type31 rfl (ev_tv rfl rfl) (ev_tv rfl rfl) hi91 hi92) hS ?_
                    intro hS
                    refine D_pure (i := 9) (v := .slice (some ⟨b32, o33, none⟩) x14l x14c) rfl (by kernel_rfl) (W_yes (dj := 95) rfl rfl rfl hq89) (fun _ => y_move (ev_tv rfl ((hag57 9 rfl).trans rfl))) hS ?_
                    intro hS
                    refine D_pure (i := 10) (v := .int .i64 v29) rfl (by kernel_rfl) (W_yes (dj := 95) rfl rfl rfl hq89) (fun _ => y_move (ev_tv rfl hs62)) hS ?_
                    intro hS
                    obtain ⟨hi93, hi94, H⟩ := H
                    refine D_pure (i := 11) (v := .pointer (some ⟨b32, o33 + (v29 : Int).toNat * 2, none⟩)) rfl (by kernel_rfl) (W_yes (dj := 95) rfl rfl rfl hq89) (fun _ => y_ix Try.underlying40 Try.type31 rfl (ev_tv rfl rfl) (ev_tv rfl rfl) hi93 hi94) hS ?_
                    intro hS
                    obtain ⟨x45, x46, hc95, H⟩ := H
                    refine D_read (i := 8) (v := .agg #[.int .i64 x45, .int .i64 x46]) rfl (by kernel_rfl) (W_yes (dj := 95) rfl rfl rfl hq89) (fun wx => CellsAt wx ⟨b43, o44 + (v28 : Int).toNat * 2, none⟩ [.int .i64 x45, .int .i64 x46]) hc95 (fun _ hcx => y_loadAgg Try.underlying31 rfl Try.type31 rfl (ev_tv rfl rfl) hcx) hS ?_
                    intro hS
                    obtain ⟨x47, x48, hc96, H⟩ := H
                    refine D_read (i := 12) (v := .agg #[.int .i64 x47, .int .i64 x48]) rfl (by kernel_rfl) (W_yes (dj := 95) rfl rfl rfl hq89) (fun wx => CellsAt wx ⟨b32, o33 + (v29 : Int).toNat * 2, none⟩ [.int .i64 x47, .int .i64 x48]) hc96 (fun _ hcx => y_loadAgg Try.underlying31 rfl Try.type31 rfl (ev_tv rfl rfl) hcx) hS ?_
                    intro hS
                    obtain ⟨q49, hg98, hc97, H⟩ := H
                    refine D_pure (i := 13) (v := .bool q49) rfl (by kernel_rfl) (W_yes (dj := 95) rfl rfl rfl hq89) (fun _ => y_nev (ev_tv rfl rfl) (ev_tv rfl rfl) (hg98 _) (hc97 _)) hS ?_
                    intro hS
                    refine D_pure (i := 14) (v := .bool q49) rfl (by kernel_rfl) (W_none rfl) (fun _ => y_pick_f (ev_tv rfl hq89) (ev_tv rfl rfl)) hS ?_
                    intro hS
                    refine D_done (by kernel_rfl) ?_
                    refine then_norm ?_
                    refine hK87 _ _ ?_
                    clear hK87
                    rcases Bool.eq_false_or_eq_true q49 with hb99 | hb99
                    · replace H := H.1 hb99
                      have hq100 : Value.bool (q49) = Value.bool true := congrArg Value.bool hb99
                      refine cond_t (ev_tv rfl hq100) ?_
                      refine c_seq ?_
                      intro K101 hK101
                      refine c_region ?_
                      refine L_val (v := .bool false) (y_assign ev_c) ?_
                      refine l_nil ?_
                      refine then_norm ?_
                      refine hK101 _ _ ?_
                      clear hK101
                      refine c_ret ?_
                      refine then_ret ?_
                      refine block_ret ?_
                      refine then_ret ?_
                      refine then_ret ?_
                      refine block_ret ?_
                      refine then_ret ?_
                      refine block_ret ?_
                      refine then_ret ?_
                      refine then_ret ?_
                      refine block_ret ?_
                      refine then_ret ?_
                      exact body_1 rfl (ev_tv rfl rfl) H
                    · replace H := H.2 hb99
                      have hq100 : Value.bool (q49) = Value.bool false := congrArg Value.bool hb99
                      refine cond_f (ev_tv rfl hq100) ?_
                      refine c_skip ?_
                      refine then_norm ?_
                      refine hK86 _ _ ?_
                      clear hK86
                      refine c_region ?_
                      refine L_val (v := .int .i64 v28) (y_move (ev_tv rfl hs61)) ?_
                      obtain ⟨r50, hr102⟩ : ∃ r50 : Int, r50 = IntKind.wrap .i64 (v28 + 1) := ⟨_, rfl⟩
                      replace H := H r50 hr102
                      refine L_val (v := .int .i64 r50) (y_add (ev_tv rfl rfl) ev_c hr102) ?_
                      refine L_val (v := .int .i64 r50) (y_assign (ev_tv rfl rfl)) ?_
                      refine l_nil ?_
                      refine block_norm ?_
                      refine then_norm ?_
                      refine hK67 _ _ ?_
                      clear hK67
                      refine c_region ?_
                      refine L_val (v := .int .i64 v29) (y_move (ev_tv rfl hs62)) ?_
                      obtain ⟨r51, hr103⟩ : ∃ r51 : Int, r51 = IntKind.wrap .i64 (v29 + 1) := ⟨_, rfl⟩
                      replace H := H r51 hr103
                      refine L_val (v := .int .i64 r51) (y_add (ev_tv rfl rfl) ev_c hr103) ?_
                      refine L_val (v := .int .i64 r51) (y_assign (ev_tv rfl rfl)) ?_
                      refine l_nil ?_
                      refine then_norm ?_
                      obtain ⟨m52, hm104, H⟩ := H
                      exact ⟨_, rfl, (by repeat (first | exact agree_refl | exact hag57 | exact hag23 | exact hag16 | refine agree_upd rfl ?_ | refine agree_via hag57 rfl ?_ | refine agree_via hag23 rfl ?_ | refine agree_via hag16 rfl ?_)), m52, hm104, _, _, rfl, rfl, H⟩
              · replace H := H.2 hb65
                have hq66 : Value.bool (decide ((v29 : Int) < ((x14l : Nat) : Int))) = Value.bool false := congrArg Value.bool (decide_eq_false hb65)
                refine cond_f (ev_tv rfl hq66) ?_
                refine c_exit ?_
                refine then_exit ?_
                refine then_exit ?_
                refine block_hit ?_
                refine then_norm ?_
                exact hK42 _ _ (by repeat (first | exact agree_refl | exact hag57 | exact hag23 | exact hag16 | refine agree_upd rfl ?_ | refine agree_via hag57 rfl ?_ | refine agree_via hag23 rfl ?_ | refine agree_via hag16 rfl ?_)) ⟨_, hs61, H⟩
            · clear H
              rintro f39 w24 hag40 ⟨v23, hs43, HJ41⟩
              have H := hJ38 v23 w24 HJ41
              clear hJ38
              refine c_seq ?_
              intro K44 hK44
              refine c_region ?_
              refine L_val (v := .int .i64 v23) (y_move (ev_tv rfl hs43)) ?_
              refine L_val (v := .slice x20 x20l x20c) (y_move (ev_tv rfl ((hag40 11 rfl).trans rfl))) ?_
              refine L_val (v := .int .i64 ((x20l : Nat) : Int)) (y_len Try.underlying40 rfl (map_ev1 (ev_tv rfl rfl))) ?_
              refine L_val (v := .bool (!decide ((v23 : Int) = ((x20l : Nat) : Int)))) (y_ine (ev_tv rfl rfl) (ev_tv rfl rfl)) ?_
              refine L_val (v := .bool (!decide ((v23 : Int) = ((x20l : Nat) : Int)))) (y_move (ev_tv rfl rfl)) ?_
              rcases (Decidable.em ((v23 : Int) = ((x20l : Nat) : Int))).symm with hb45 | hb45
              · replace H := H.1 hb45
                have hq46 : Value.bool (!decide ((v23 : Int) = ((x20l : Nat) : Int))) = Value.bool true := congrArg Value.bool (ndec_t hb45)
                refine G_not (b' := true) (dj := 112) rfl rfl hq46 rfl ?_
                refine G_not (b' := true) (dj := 112) rfl rfl hq46 rfl ?_
                refine G_not (b' := true) (dj := 112) rfl rfl hq46 rfl ?_
                refine G_not (b' := true) (dj := 112) rfl rfl hq46 rfl ?_
                refine G_not (b' := true) (dj := 112) rfl rfl hq46 rfl ?_
                refine G_not (b' := true) (dj := 112) rfl rfl hq46 rfl ?_
                refine G_not (b' := true) (dj := 112) rfl rfl hq46 rfl ?_
                refine L_val (v := .bool true) (y_pick_t (ev_tv rfl hq46) ev_c) ?_
                refine l_nil ?_
                refine then_norm ?_
                refine hK44 _ _ ?_
                clear hK44
                refine cond_t (ev_tv rfl rfl) ?_
                refine c_seq ?_
                intro K47 hK47
                refine c_region ?_
                refine L_val (v := .bool false) (y_assign ev_c) ?_
                refine l_nil ?_
                refine then_norm ?_
                refine hK47 _ _ ?_
                clear hK47
                refine c_ret ?_
                refine block_ret ?_
                refine then_ret ?_
                refine then_ret ?_
                refine block_ret ?_
                refine then_ret ?_
                exact body_1 rfl (ev_tv rfl rfl) H
              · replace H := H.2 hb45
                have hq46 : Value.bool (!decide ((v23 : Int) = ((x20l : Nat) : Int))) = Value.bool false := congrArg Value.bool (ndec_f hb45)
                refine G_val (dj := 112) rfl rfl hq46 (v := .int .i64 x17) (y_move (ev_tv rfl ((hag40 10 rfl).trans rfl))) ?_
                refine G_val (dj := 112) rfl rfl hq46 (v := .slice x14 x14l x14c) (y_move (ev_tv rfl ((hag40 9 rfl).trans rfl))) ?_
                refine G_val (dj := 112) rfl rfl hq46 (v := .int .i64 ((x14l : Nat) : Int)) (y_len Try.underlying40 rfl (map_ev1 (ev_tv rfl rfl))) ?_
                refine G_val (dj := 112) rfl rfl hq46 (v := .slice x20 x20l x20c) (y_move (ev_tv rfl ((hag40 11 rfl).trans rfl))) ?_
                refine G_val (dj := 112) rfl rfl hq46 (v := .int .i64 ((x20l : Nat) : Int)) (y_len Try.underlying40 rfl (map_ev1 (ev_tv rfl rfl))) ?_
                obtain ⟨r25, hr48⟩ : ∃ r25 : Int, r25 = IntKind.wrap .i64 (((x14l : Nat) : Int) - ((x20l : Nat) : Int)) := ⟨_, rfl⟩
                replace H := H r25 hr48
                refine G_val (dj := 112) rfl rfl hq46 (v := .int .i64 r25) (y_sub (ev_tv rfl rfl) (ev_tv rfl rfl) hr48) ?_
                refine G_val (dj := 112) rfl rfl hq46 (v := .bool (!decide ((x17 : Int) = r25))) (y_ine (ev_tv rfl rfl) (ev_tv rfl rfl)) ?_
                refine L_val (v := .bool (!decide ((x17 : Int) = r25))) (y_pick_f (ev_tv rfl hq46) (ev_tv rfl rfl)) ?_
                refine l_nil ?_
                refine then_norm ?_
                refine hK44 _ _ ?_
                clear hK44
                rcases (Decidable.em ((x17 : Int) = r25)).symm with hb49 | hb49
                · replace H := H.1 hb49
                  have hq50 : Value.bool (!decide ((x17 : Int) = r25)) = Value.bool true := congrArg Value.bool (ndec_t hb49)
                  refine cond_t (ev_tv rfl hq50) ?_
                  refine c_seq ?_
                  intro K51 hK51
                  refine c_region ?_
                  refine L_val (v := .bool false) (y_assign ev_c) ?_
                  refine l_nil ?_
                  refine then_norm ?_
                  refine hK51 _ _ ?_
                  clear hK51
                  refine c_ret ?_
                  refine block_ret ?_
                  refine then_ret ?_
                  refine then_ret ?_
                  refine block_ret ?_
                  refine then_ret ?_
                  exact body_1 rfl (ev_tv rfl rfl) H
                · replace H := H.2 hb49
                  have hq50 : Value.bool (!decide ((x17 : Int) = r25)) = Value.bool false := congrArg Value.bool (ndec_f hb49)
                  refine cond_f (ev_tv rfl hq50) ?_
                  refine c_skip ?_
                  refine block_norm ?_
                  refine then_norm ?_
                  refine hK32 _ _ ?_
                  clear hK32
                  refine c_region ?_
                  refine L_val (v := .int .i64 v11) (y_move (ev_tv rfl ((hag40 8 rfl).trans hs27))) ?_
                  obtain ⟨r26, hr52⟩ : ∃ r26 : Int, r26 = IntKind.wrap .i64 (v11 + 1) := ⟨_, rfl⟩
                  replace H := H r26 hr52
                  refine L_val (v := .int .i64 r26) (y_add (ev_tv rfl rfl) ev_c hr52) ?_
                  refine L_val (v := .int .i64 r26) (y_assign (ev_tv rfl rfl)) ?_
                  refine l_nil ?_
                  refine then_norm ?_
                  obtain ⟨m27, hm53, H⟩ := H
                  exact ⟨_, rfl, (by repeat (first | exact agree_refl | exact hag40 | exact hag23 | exact hag16 | refine agree_upd rfl ?_ | refine agree_via hag40 rfl ?_ | refine agree_via hag23 rfl ?_ | refine agree_via hag16 rfl ?_)), m27, hm53, _, rfl, H⟩
          · replace H := H.2 hb30
            have hq31 : Value.bool (decide ((v11 : Int) < 4)) = Value.bool false := congrArg Value.bool (decide_eq_false hb30)
            refine cond_f (ev_tv rfl hq31) ?_
            refine c_exit ?_
            refine then_exit ?_
            refine then_exit ?_
            refine block_hit ?_
            refine then_norm ?_
            refine hK19 _ _ ?_
            clear hK19
            refine c_seq ?_
            intro K105 hK105
            refine c_region ?_
            refine L_val (v := .bool true) (y_assign ev_c) ?_
            refine l_nil ?_
            refine then_norm ?_
            refine hK105 _ _ ?_
            clear hK105
            refine c_ret ?_
            exact body_1 rfl (ev_tv rfl rfl) H
      · replace H := H.2 hb11
        have hq12 : Value.bool (x7) = Value.bool false := congrArg Value.bool hb11
        refine G_val (dj := 26) rfl rfl hq9 (v := .bool true) (y_not_f (ev_tv rfl hq12)) ?_
        refine L_val (v := .bool true) (y_pick_f (ev_tv rfl hq9) (ev_tv rfl rfl)) ?_
        refine l_nil ?_
        refine then_norm ?_
        refine hK4 _ _ ?_
        clear hK4
        refine cond_t (ev_tv rfl rfl) ?_
        refine c_seq ?_
        intro K130 hK130
        refine c_region ?_
        refine L_val (v := .bool false) (y_assign ev_c) ?_
        refine l_nil ?_
        refine then_norm ?_
        refine hK130 _ _ ?_
        clear hK130
        refine c_ret ?_
        refine then_ret ?_
        exact body_1 rfl (ev_tv rfl rfl) H

/-- parapet/parapetlaw07.TlbPlays -/
def Vc6 (a_harts1 : Int) (a_size2 : Int) (a_l3 : Option Addr) (a_l3l : Nat) (a_l3c : Nat) (w : World) (R : Ending → World → Prop) : Prop :=
  (Calls Try.prog 7 #[.int .i64 a_harts1, .int .i64 a_size2] w fun e w6 => ∃ x4 : Option Addr, ∃ x5 : Int, e = .returned (.tuple #[.pointer x4, .int .i64 x5]) ∧ (Calls Try.prog 17 #[.int .i64 a_harts1, .int .i64 a_size2] w6 fun e w10 => ∃ x8 : Option Addr, ∃ x9 : Int, e = .returned (.tuple #[.pointer x8, .int .i64 x9]) ∧ (Calls Try.prog 8 #[] w10 fun e w13 => ∃ x12 : Bool, e = .returned (.bool x12) ∧ (((x12 = true) → (((¬ ((x5 : Int) = x9)) → R (.returned (.bool false)) w13) ∧ (((x5 : Int) = x9) → ((((!((x4.isNone) == (x8.isNone))) = true) → R (.returned (.bool false)) w13) ∧ (((!((x4.isNone) == (x8.isNone))) = false) → (∃ J14 : World → Prop, (∀  (w15 : World), J14  w15 → (((x8 = none) → R (.returned (.bool true)) w15) ∧ ((x8 ≠ none) → (Calls Try.prog 19 #[.pointer x4, .pointer x8] w15 fun e w17 => ∃ x16 : Bool, e = .returned (.bool x16) ∧ R (.returned (.bool x16)) w17)))) ∧ (∃ I24 : Nat → Int → World → Prop, (∃ m, I24 m 0 w13) ∧ ∀ (m20 : Nat) (v19 : Int) (w21 : World), I24 m20 v19 w21 → ((((v19 : Int) < ((a_l3l : Nat) : Int)) → (((x8 ≠ none) → (∃ (b22 o23 : Nat), a_l3 = some ⟨b22, o23, none⟩ ∧ ((0 : Int) ≤ v19 ∧ v19 < ((a_l3l : Nat) : Int) ∧ (∃ x24 : Int, ∃ x25 : Int, ∃ x26 : Int, ∃ x27 : Int, ∃ x28 : Int, ∃ x29 : Int, ∃ x30 : Option Addr, ∃ x30l : Nat, ∃ x30c : Nat, CellsAt w21 ⟨b22, o23 + (v19 : Int).toNat * 7, none⟩ [.int .i64 x24, .int .i64 x25, .int .i64 x26, .int .i64 x27, .int .u32 x28, .int .i64 x29, .slice x30 x30l x30c] ∧ (Calls Try.prog 18 #[.pointer x4, .pointer x8, .agg #[.int .i64 x24, .int .i64 x25, .int .i64 x26, .int .i64 x27, .int .u32 x28, .int .i64 x29, .slice x30 x30l x30c]] w21 fun e w32 => ∃ x31 : Bool, e = .returned (.bool x31) ∧ (((x31 = true) → (∀ r34 : Int, r34 = IntKind.wrap .i64 (v19 + 1) → (∃ m35, m35 < m20 ∧ I24 m35 r34 w32))) ∧ ((x31 = false) → R (.returned (.bool false)) w32))))))) ∧ ((x8 = none) → J14  w21))) ∧ ((¬ ((v19 : Int) < ((a_l3l : Nat) : Int))) → J14  w21))))))))) ∧ ((x12 = false) → R (.returned (.bool false)) w13)))))

theorem vc6 {a_harts1 : Int} {a_size2 : Int} {a_l3 : Option Addr} {a_l3l : Nat} {a_l3c : Nat} {w : World} {R : Ending → World → Prop} (H : Vc6 a_harts1 a_size2 a_l3 a_l3l a_l3c w R) : Calls Try.prog 6 #[.int .i64 a_harts1, .int .i64 a_size2, .slice a_l3 a_l3l a_l3c] w R := by
  unfold Vc6 at H
  refine calls_start [.int .i64 a_harts1, .int .i64 a_size2, .slice a_l3 a_l3l a_l3c] Try.func6 rfl Try.ntmps6 rfl ?_
  refine c_seq ?_
  intro K1 hK1
  refine c_region ?_
  refine L_val (v := .bool false) (y_assign ev_c) ?_
  refine l_nil ?_
  refine then_norm ?_
  refine hK1 _ _ ?_
  clear hK1
  refine c_seq ?_
  intro K2 hK2
  refine c_region ?_
  refine L_val (v := .int .i64 a_harts1) (y_move (ev_tv rfl rfl)) ?_
  refine L_val (v := .int .i64 a_size2) (y_move (ev_tv rfl rfl)) ?_
  refine L_call (y_call Try.call7 (map_ev2 (ev_tv rfl rfl) (ev_tv rfl rfl)) ev_f) (Calls.mono H ?_)
  clear H
  rintro _ w6 ⟨x4, x5, rfl, H⟩
  refine ⟨_, rfl, ?_⟩
  refine L_val (v := .tuple #[.pointer x4, .int .i64 x5]) (y_move (ev_tv rfl rfl)) ?_
  refine L_val (v := .pointer x4) (y_extract (ev_tv rfl rfl) rfl) ?_
  refine L_val (v := .int .i64 x5) (y_extract (ev_tv rfl rfl) rfl) ?_
  refine L_val (v := .pointer x4) (y_assign (ev_tv rfl rfl)) ?_
  refine L_val (v := .int .i64 x5) (y_assign (ev_tv rfl rfl)) ?_
  refine l_nil ?_
  refine then_norm ?_
  refine hK2 _ _ ?_
  clear hK2
  refine c_seq ?_
  intro K3 hK3
  refine c_region ?_
  refine L_val (v := .int .i64 a_harts1) (y_move (ev_tv rfl rfl)) ?_
  refine L_val (v := .int .i64 a_size2) (y_move (ev_tv rfl rfl)) ?_
  refine L_call (y_call Try.call17 (map_ev2 (ev_tv rfl rfl) (ev_tv rfl rfl)) ev_f) (Calls.mono H ?_)
  clear H
  rintro _ w10 ⟨x8, x9, rfl, H⟩
  refine ⟨_, rfl, ?_⟩
  refine L_val (v := .tuple #[.pointer x8, .int .i64 x9]) (y_move (ev_tv rfl rfl)) ?_
  refine L_val (v := .pointer x8) (y_extract (ev_tv rfl rfl) rfl) ?_
  refine L_val (v := .int .i64 x9) (y_extract (ev_tv rfl rfl) rfl) ?_
  refine L_val (v := .pointer x8) (y_assign (ev_tv rfl rfl)) ?_
  refine L_val (v := .int .i64 x9) (y_assign (ev_tv rfl rfl)) ?_
  refine l_nil ?_
  refine then_norm ?_
  refine hK3 _ _ ?_
  clear hK3
  refine c_seq ?_
  intro K4 hK4
  refine c_seq ?_
  intro K5 hK5
  refine c_region ?_
  refine L_call (y_call Try.call8 map_ev0 ev_f) (Calls.mono H ?_)
  clear H
  rintro _ w13 ⟨x12, rfl, H⟩
  refine ⟨_, rfl, ?_⟩
  rcases Bool.eq_false_or_eq_true x12 with hb6 | hb6
  · replace H := H.1 hb6
    have hq7 : Value.bool (x12) = Value.bool true := congrArg Value.bool hb6
    refine L_val (v := .bool false) (y_not_t (ev_tv rfl hq7)) ?_
    refine L_val (v := .bool false) (y_move (ev_tv rfl rfl)) ?_
    refine G_val (dj := 26) rfl rfl rfl (v := .int .i64 x5) (y_move (ev_tv rfl rfl)) ?_
    refine G_val (dj := 26) rfl rfl rfl (v := .int .i64 x9) (y_move (ev_tv rfl rfl)) ?_
    refine G_val (dj := 26) rfl rfl rfl (v := .bool (!decide ((x5 : Int) = x9))) (y_ine (ev_tv rfl rfl) (ev_tv rfl rfl)) ?_
    refine L_val (v := .bool (!decide ((x5 : Int) = x9))) (y_pick_f (ev_tv rfl rfl) (ev_tv rfl rfl)) ?_
    refine L_val (v := .bool (!decide ((x5 : Int) = x9))) (y_move (ev_tv rfl rfl)) ?_
    rcases (Decidable.em ((x5 : Int) = x9)).symm with hb8 | hb8
    · replace H := H.1 hb8
      have hq9 : Value.bool (!decide ((x5 : Int) = x9)) = Value.bool true := congrArg Value.bool (ndec_t hb8)
      refine G_not (b' := true) (dj := 31) rfl rfl hq9 rfl ?_
      refine G_not (b' := true) (dj := 31) rfl rfl hq9 rfl ?_
      refine G_not (b' := true) (dj := 31) rfl rfl hq9 rfl ?_
      refine G_not (b' := true) (dj := 31) rfl rfl hq9 rfl ?_
      refine G_not (b' := true) (dj := 31) rfl rfl hq9 rfl ?_
      refine L_val (v := .bool true) (y_pick_t (ev_tv rfl hq9) ev_c) ?_
      refine l_nil ?_
      refine then_norm ?_
      refine hK5 _ _ ?_
      clear hK5
      refine cond_t (ev_tv rfl rfl) ?_
      refine c_seq ?_
      intro K10 hK10
      refine c_region ?_
      refine L_val (v := .bool false) (y_assign ev_c) ?_
      refine l_nil ?_
      refine then_norm ?_
      refine hK10 _ _ ?_
      clear hK10
      refine c_ret ?_
      refine then_ret ?_
      exact body_1 rfl (ev_tv rfl rfl) H
    · replace H := H.2 hb8
      have hq9 : Value.bool (!decide ((x5 : Int) = x9)) = Value.bool false := congrArg Value.bool (ndec_f hb8)
      refine G_val (dj := 31) rfl rfl hq9 (v := .pointer x4) (y_move (ev_tv rfl rfl)) ?_
      refine G_val (dj := 31) rfl rfl hq9 (v := .bool (x4.isNone)) (y_peq Try.underlying24 (ev_tv rfl rfl) ev_c) ?_
      refine G_val (dj := 31) rfl rfl hq9 (v := .pointer x8) (y_move (ev_tv rfl rfl)) ?_
      refine G_val (dj := 31) rfl rfl hq9 (v := .bool (x8.isNone)) (y_peq Try.underlying47 (ev_tv rfl rfl) ev_c) ?_
      refine G_val (dj := 31) rfl rfl hq9 (v := .bool (!((x4.isNone) == (x8.isNone)))) (y_bne Try.underlying4 (ev_tv rfl rfl) (ev_tv rfl rfl)) ?_
      refine L_val (v := .bool (!((x4.isNone) == (x8.isNone)))) (y_pick_f (ev_tv rfl hq9) (ev_tv rfl rfl)) ?_
      refine l_nil ?_
      refine then_norm ?_
      refine hK5 _ _ ?_
      clear hK5
      rcases Bool.eq_false_or_eq_true (!((x4.isNone) == (x8.isNone))) with hb11 | hb11
      · replace H := H.1 hb11
        have hq12 : Value.bool (!((x4.isNone) == (x8.isNone))) = Value.bool true := congrArg Value.bool hb11
        refine cond_t (ev_tv rfl hq12) ?_
        refine c_seq ?_
        intro K13 hK13
        refine c_region ?_
        refine L_val (v := .bool false) (y_assign ev_c) ?_
        refine l_nil ?_
        refine then_norm ?_
        refine hK13 _ _ ?_
        clear hK13
        refine c_ret ?_
        refine then_ret ?_
        exact body_1 rfl (ev_tv rfl rfl) H
      · replace H := H.2 hb11
        have hq12 : Value.bool (!((x4.isNone) == (x8.isNone))) = Value.bool false := congrArg Value.bool hb11
        refine cond_f (ev_tv rfl hq12) ?_
        refine c_skip ?_
        refine then_norm ?_
        refine hK4 _ _ ?_
        clear hK4
        obtain ⟨J14, hJ15, H⟩ := H
        refine c_seqJ [(6, 6), (11, 11), (38, 55)] (fun ff ww => J14  ww) ?_ ?_
        · clear hJ15
          intro K19 hK19
          refine c_seq ?_
          intro K23 hK23
          refine c_region ?_
          refine L_val (v := .int .i64 0) (y_assign ev_c) ?_
          refine l_nil ?_
          refine then_norm ?_
          refine hK23 _ _ ?_
          clear hK23
          refine c_block ?_
          obtain ⟨I24, ⟨m28, HI29⟩, H⟩ := H
          refine loop_fr ([(6, 6), (11, 11), (38, 55)]) (fun m ff ww => ∃ (v19 : Int), ff 11 = (.int .i64 v19 : Value) ∧ I24 m v19 ww) m28 ⟨0, rfl, HI29⟩ ?_
          rintro m20 f25 w21 hag26 ⟨v19, hs30, HI27⟩
          replace H := H m20 v19 w21 HI27
          refine c_seq ?_
          intro K31 hK31
          refine c_seq ?_
          intro K32 hK32
          refine c_region ?_
          refine L_val (v := .int .i64 v19) (y_move (ev_tv rfl hs30)) ?_
          refine L_val (v := .slice a_l3 a_l3l a_l3c) (y_move (ev_tv rfl ((hag26 2 rfl).trans rfl))) ?_
          refine L_val (v := .int .i64 ((a_l3l : Nat) : Int)) (y_len Try.underlying22 rfl (map_ev1 (ev_tv rfl rfl))) ?_
          refine L_val (v := .bool (decide ((v19 : Int) < ((a_l3l : Nat) : Int)))) (y_lss (ev_tv rfl rfl) (ev_tv rfl rfl)) ?_
          refine L_val (v := .bool (decide ((v19 : Int) < ((a_l3l : Nat) : Int)))) (y_move (ev_tv rfl rfl)) ?_
          rcases (Decidable.em ((v19 : Int) < ((a_l3l : Nat) : Int))) with hb33 | hb33
          · replace H := H.1 hb33
            have hq34 : Value.bool (decide ((v19 : Int) < ((a_l3l : Nat) : Int))) = Value.bool true := congrArg Value.bool (decide_eq_true hb33)
            refine G_val (dj := 42) rfl rfl hq34 (v := .pointer x8) (y_move (ev_tv rfl ((hag26 9 rfl).trans rfl))) ?_
            refine G_val (dj := 42) rfl rfl hq34 (v := .bool (!x8.isNone)) (y_pne Try.underlying47 (ev_tv rfl rfl) ev_c) ?_
            refine L_val (v := .bool (!x8.isNone)) (y_pick_t (ev_tv rfl hq34) (ev_tv rfl rfl)) ?_
            refine l_nil ?_
            refine then_norm ?_
            refine hK32 _ _ ?_
            clear hK32
            rcases (Classical.em (x8 ≠ none)) with hb35 | hb35
            · replace H := H.1 hb35
              have hq36 : Value.bool (!x8.isNone) = Value.bool true := congrArg Value.bool (nisn_t hb35)
              refine cond_t (ev_tv rfl hq36) ?_
              refine c_skip ?_
              refine then_norm ?_
              refine hK31 _ _ ?_
              clear hK31
              refine c_seq ?_
              intro K37 hK37
              refine c_block ?_
              refine c_seq ?_
              intro K38 hK38
              refine c_region ?_
              refine L_val (v := .pointer x4) (y_move (ev_tv rfl ((hag26 7 rfl).trans rfl))) ?_
              refine L_val (v := .pointer x8) (y_move (ev_tv rfl ((hag26 9 rfl).trans rfl))) ?_
              refine L_val (v := .slice a_l3 a_l3l a_l3c) (y_move (ev_tv rfl ((hag26 2 rfl).trans rfl))) ?_
              refine L_val (v := .int .i64 v19) (y_move (ev_tv rfl hs30)) ?_
              obtain ⟨b22, o23, rfl, H⟩ := H
              obtain ⟨hi39, hi40, H⟩ := H
              refine L_val (v := .pointer (some ⟨b22, o23 + (v19 : Int).toNat * 7, none⟩)) (y_ix Try.underlying22 Try.type34 rfl (ev_tv rfl rfl) (ev_tv rfl rfl) hi39 hi40) ?_
              obtain ⟨x24, x25, x26, x27, x28, x29, x30, x30l, x30c, hc41, H⟩ := H
              refine L_val (v := .agg #[.int .i64 x24, .int .i64 x25, .int .i64 x26, .int .i64 x27, .int .u32 x28, .int .i64 x29, .slice x30 x30l x30c]) (y_loadAgg Try.underlying34 rfl Try.type34 rfl (ev_tv rfl rfl) hc41) ?_
              refine L_call (y_call Try.call18 (map_ev3 (ev_tv rfl rfl) (ev_tv rfl rfl) (ev_tv rfl rfl)) ev_f) (Calls.mono H ?_)
              clear H
              rintro _ w32 ⟨x31, rfl, H⟩
              refine ⟨_, rfl, ?_⟩
              rcases Bool.eq_false_or_eq_true x31 with hb42 | hb42
              · replace H := H.1 hb42
                have hq43 : Value.bool (x31) = Value.bool true := congrArg Value.bool hb42
                refine L_val (v := .bool false) (y_not_t (ev_tv rfl hq43)) ?_
                refine l_nil ?_
                refine then_norm ?_
                refine hK38 _ _ ?_
                clear hK38
                refine cond_f (ev_tv rfl rfl) ?_
                refine c_skip ?_
                refine block_norm ?_
                refine then_norm ?_
                refine hK37 _ _ ?_
                clear hK37
                refine c_region ?_
                refine L_val (v := .int .i64 v19) (y_move (ev_tv rfl hs30)) ?_
                obtain ⟨r34, hr44⟩ : ∃ r34 : Int, r34 = IntKind.wrap .i64 (v19 + 1) := ⟨_, rfl⟩
                replace H := H r34 hr44
                refine L_val (v := .int .i64 r34) (y_add (ev_tv rfl rfl) ev_c hr44) ?_
                refine L_val (v := .int .i64 r34) (y_assign (ev_tv rfl rfl)) ?_
                refine l_nil ?_
                refine then_norm ?_
                obtain ⟨m35, hm45, H⟩ := H
                exact ⟨_, rfl, (by repeat (first | exact agree_refl | exact hag26 | refine agree_upd rfl ?_ | refine agree_via hag26 rfl ?_)), m35, hm45, _, rfl, H⟩
              · replace H := H.2 hb42
                have hq43 : Value.bool (x31) = Value.bool false := congrArg Value.bool hb42
                refine L_val (v := .bool true) (y_not_f (ev_tv rfl hq43)) ?_
                refine l_nil ?_
                refine then_norm ?_
                refine hK38 _ _ ?_
                clear hK38
                refine cond_t (ev_tv rfl rfl) ?_
                refine c_seq ?_
                intro K46 hK46
                refine c_region ?_
                refine L_val (v := .bool false) (y_assign ev_c) ?_
                refine l_nil ?_
                refine then_norm ?_
                refine hK46 _ _ ?_
                clear hK46
                refine c_ret ?_
                refine block_ret ?_
                refine then_ret ?_
                refine then_ret ?_
                refine block_ret ?_
                refine then_ret ?_
                exact body_1 rfl (ev_tv rfl rfl) H
            · replace hb35 : x8 = none := Classical.not_not.1 hb35
              replace H := H.2 hb35
              have hq36 : Value.bool (!x8.isNone) = Value.bool false := congrArg Value.bool (nisn_f hb35)
              refine cond_f (ev_tv rfl hq36) ?_
              refine c_exit ?_
              refine then_exit ?_
              refine then_exit ?_
              refine block_hit ?_
              refine then_norm ?_
              exact hK19 _ _ (by repeat (first | exact agree_refl | exact hag26 | refine agree_upd rfl ?_ | refine agree_via hag26 rfl ?_)) H
          · replace H := H.2 hb33
            have hq34 : Value.bool (decide ((v19 : Int) < ((a_l3l : Nat) : Int))) = Value.bool false := congrArg Value.bool (decide_eq_false hb33)
            refine G_not (b' := false) (dj := 42) rfl rfl hq34 rfl ?_
            refine G_not (b' := false) (dj := 42) rfl rfl hq34 rfl ?_
            refine L_val (v := .bool false) (y_pick_f (ev_tv rfl hq34) ev_c) ?_
            refine l_nil ?_
            refine then_norm ?_
            refine hK32 _ _ ?_
            clear hK32
            refine cond_f (ev_tv rfl rfl) ?_
            refine c_exit ?_
            refine then_exit ?_
            refine then_exit ?_
            refine block_hit ?_
            refine then_norm ?_
            exact hK19 _ _ (by repeat (first | exact agree_refl | exact hag26 | refine agree_upd rfl ?_ | refine agree_via hag26 rfl ?_)) H
        · clear H
          intro f16 w15 hag17 HJ18
          have H := hJ15  w15 HJ18
          clear hJ15
          refine c_seq ?_
          intro K20 hK20
          refine c_region ?_
          refine L_val (v := .pointer x8) (y_move (ev_tv rfl ((hag17 9 rfl).trans rfl))) ?_
          refine L_val (v := .bool (x8.isNone)) (y_peq Try.underlying47 (ev_tv rfl rfl) ev_c) ?_
          refine L_val (v := .bool (x8.isNone)) (y_move (ev_tv rfl rfl)) ?_
          rcases (Classical.em (x8 = none)) with hb21 | hb21
          · replace H := H.1 hb21
            have hq22 : Value.bool (x8.isNone) = Value.bool true := congrArg Value.bool (isn_t hb21)
            refine G_not (b' := true) (dj := 58) rfl rfl hq22 rfl ?_
            refine G_not (b' := true) (dj := 58) rfl rfl hq22 rfl ?_
            refine G_not (b' := true) (dj := 58) rfl rfl hq22 rfl ?_
            refine L_val (v := .bool true) (y_pick_t (ev_tv rfl hq22) ev_c) ?_
            refine L_val (v := .bool true) (y_assign (ev_tv rfl rfl)) ?_
            refine l_nil ?_
            refine then_norm ?_
            refine hK20 _ _ ?_
            clear hK20
            refine c_ret ?_
            exact body_1 rfl (ev_tv rfl rfl) H
          · replace H := H.2 hb21
            have hq22 : Value.bool (x8.isNone) = Value.bool false := congrArg Value.bool (isn_f hb21)
            refine G_val (dj := 58) rfl rfl hq22 (v := .pointer x4) (y_move (ev_tv rfl ((hag17 7 rfl).trans rfl))) ?_
            refine G_val (dj := 58) rfl rfl hq22 (v := .pointer x8) (y_move (ev_tv rfl ((hag17 9 rfl).trans rfl))) ?_
            refine G_call (dj := 58) rfl rfl hq22 (y_call Try.call19 (map_ev2 (ev_tv rfl rfl) (ev_tv rfl rfl)) ev_f) (Calls.mono H ?_)
            clear H
            rintro _ w17 ⟨x16, rfl, H⟩
            refine ⟨_, rfl, ?_⟩
            refine L_val (v := .bool x16) (y_pick_f (ev_tv rfl hq22) (ev_tv rfl rfl)) ?_
            refine L_val (v := .bool x16) (y_assign (ev_tv rfl rfl)) ?_
            refine l_nil ?_
            refine then_norm ?_
            refine hK20 _ _ ?_
            clear hK20
            refine c_ret ?_
            exact body_1 rfl (ev_tv rfl rfl) H
  · replace H := H.2 hb6
    have hq7 : Value.bool (x12) = Value.bool false := congrArg Value.bool hb6
    refine L_val (v := .bool true) (y_not_f (ev_tv rfl hq7)) ?_
    refine L_val (v := .bool true) (y_move (ev_tv rfl rfl)) ?_
    refine G_not (b' := true) (dj := 26) rfl rfl rfl rfl ?_
    refine G_not (b' := true) (dj := 26) rfl rfl rfl rfl ?_
    refine G_not (b' := true) (dj := 26) rfl rfl rfl rfl ?_
    refine L_val (v := .bool true) (y_pick_t (ev_tv rfl rfl) ev_c) ?_
    refine L_val (v := .bool true) (y_move (ev_tv rfl rfl)) ?_
    refine G_not (b' := true) (dj := 31) rfl rfl rfl rfl ?_
    refine G_not (b' := true) (dj := 31) rfl rfl rfl rfl ?_
    refine G_not (b' := true) (dj := 31) rfl rfl rfl rfl ?_
    refine G_not (b' := true) (dj := 31) rfl rfl rfl rfl ?_
    refine G_not (b' := true) (dj := 31) rfl rfl rfl rfl ?_
    refine L_val (v := .bool true) (y_pick_t (ev_tv rfl rfl) ev_c) ?_
    refine l_nil ?_
    refine then_norm ?_
    refine hK5 _ _ ?_
    clear hK5
    refine cond_t (ev_tv rfl rfl) ?_
    refine c_seq ?_
    intro K47 hK47
    refine c_region ?_
    refine L_val (v := .bool false) (y_assign ev_c) ?_
    refine l_nil ?_
    refine then_norm ?_
    refine hK47 _ _ ?_
    clear hK47
    refine c_ret ?_
    refine then_ret ?_
    exact body_1 rfl (ev_tv rfl rfl) H

/-- parapet/tlb.New -/
def Vc7 (a_harts1 : Int) (a_size2 : Int) (w : World) (R : Ending → World → Prop) : Prop :=
  ((((a_harts1 : Int) < 1) → R (.returned (.tuple #[.pointer none, .int .i64 1])) w) ∧ ((¬ ((a_harts1 : Int) < 1)) → ((((8 : Int) < a_harts1) → R (.returned (.tuple #[.pointer none, .int .i64 1])) w) ∧ ((¬ ((8 : Int) < a_harts1)) → ((((a_size2 : Int) < 1) → R (.returned (.tuple #[.pointer none, .int .i64 1])) w) ∧ ((¬ ((a_size2 : Int) < 1)) → ((((64 : Int) < a_size2) → R (.returned (.tuple #[.pointer none, .int .i64 1])) w) ∧ ((¬ ((64 : Int) < a_size2)) → (∃ x4 : Option Addr, ∃ x4l : Nat, ∃ x4c : Nat, ∃ w3 : World, (Instr.makeSlice 53 (.int .i64 a_harts1) (.int .i64 a_harts1)).run Try.prog w = .ok (.slice x4 x4l x4c) w3 ∧ (∀ (b5 : Nat) (w6 : World), b5 = World.heapSize w3 → w6 = World.alloc w3 (.map #[] 0) → (∀ (b7 : Nat) (w8 : World), b7 = World.heapSize w6 → w8 = World.alloc w6 (.cells #[.int .i64 a_size2, .slice x4 x4l x4c, .int .i64 0, .map (some b5)] 56) → (∃ x9 : Option Addr, ∃ x9l : Nat, ∃ x9c : Nat, World.cell? w8 ⟨b7, 0 + 1, none⟩ = some (.slice x9 x9l x9c) ∧ (∃ I25 : Nat → Int → World → Prop, (∃ m, I25 m 0 w8) ∧ ∀ (m11 : Nat) (v10 : Int) (w12 : World), I25 m11 v10 w12 → ((((v10 : Int) < ((x9l : Nat) : Int)) → (∃ x13 : Option Addr, ∃ x13l : Nat, ∃ x13c : Nat, World.cell? w12 ⟨b7, 0 + 1, none⟩ = some (.slice x13 x13l x13c) ∧ (∀ (b14 : Nat) (w15 : World), b14 = World.heapSize w12 → w15 = World.alloc w12 (.map #[] 0) → (∃ (b16 o17 : Nat), x13 = some ⟨b16, o17, none⟩ ∧ ((0 : Int) ≤ v10 ∧ v10 < ((x13l : Nat) : Int) ∧ ((World.cell? w15 ⟨b16, o17 + (v10 : Int).toNat * 2, none⟩).isSome = true ∧ World.frozen? w15 ⟨b16, o17 + (v10 : Int).toNat * 2, none⟩ = false ∧ ∀ w18 : World, w18 = World.setCell w15 ⟨b16, o17 + (v10 : Int).toNat * 2, none⟩ (.map (some b14)) → (∀ r19 : Int, r19 = IntKind.wrap .i64 (v10 + 1) → (∃ m20, m20 < m11 ∧ I25 m20 r19 w18)))))))) ∧ ((¬ ((v10 : Int) < ((x9l : Nat) : Int))) → R (.returned (.tuple #[.pointer (some ⟨b7, 0, none⟩), .int .i64 0])) w12)))))))))))))))

theorem vc7 {a_harts1 : Int} {a_size2 : Int} {w : World} {R : Ending → World → Prop} (H : Vc7 a_harts1 a_size2 w R) : Calls Try.prog 7 #[.int .i64 a_harts1, .int .i64 a_size2] w R := by
  unfold Vc7 at H
  refine calls_start [.int .i64 a_harts1, .int .i64 a_size2] Try.func7 rfl Try.ntmps7 rfl ?_
  refine c_seq ?_
  intro K1 hK1
  refine c_region ?_
  refine L_val (v := .pointer none) (y_assign ev_c) ?_
  refine L_val (v := .int .i64 0) (y_assign ev_c) ?_
  refine l_nil ?_
  refine then_norm ?_
  refine hK1 _ _ ?_
  clear hK1
  refine c_seq ?_
  intro K2 hK2
  refine c_seq ?_
  intro K3 hK3
  refine c_region ?_
  refine L_val (v := .int .i64 a_harts1) (y_move (ev_tv rfl rfl)) ?_
  refine L_val (v := .bool (decide ((a_harts1 : Int) < 1))) (y_lss (ev_tv rfl rfl) ev_c) ?_
  refine L_val (v := .bool (decide ((a_harts1 : Int) < 1))) (y_move (ev_tv rfl rfl)) ?_
  rcases (Decidable.em ((a_harts1 : Int) < 1)) with hb4 | hb4
  · replace H := H.1 hb4
    have hq5 : Value.bool (decide ((a_harts1 : Int) < 1)) = Value.bool true := congrArg Value.bool (decide_eq_true hb4)
    refine G_not (b' := true) (dj := 10) rfl rfl hq5 rfl ?_
    refine G_not (b' := true) (dj := 10) rfl rfl hq5 rfl ?_
    refine L_val (v := .bool true) (y_pick_t (ev_tv rfl hq5) ev_c) ?_
    refine L_val (v := .bool true) (y_move (ev_tv rfl rfl)) ?_
    refine G_not (b' := true) (dj := 14) rfl rfl rfl rfl ?_
    refine G_not (b' := true) (dj := 14) rfl rfl rfl rfl ?_
    refine L_val (v := .bool true) (y_pick_t (ev_tv rfl rfl) ev_c) ?_
    refine L_val (v := .bool true) (y_move (ev_tv rfl rfl)) ?_
    refine G_not (b' := true) (dj := 18) rfl rfl rfl rfl ?_
    refine G_not (b' := true) (dj := 18) rfl rfl rfl rfl ?_
    refine L_val (v := .bool true) (y_pick_t (ev_tv rfl rfl) ev_c) ?_
    refine l_nil ?_
    refine then_norm ?_
    refine hK3 _ _ ?_
    clear hK3
    refine cond_t (ev_tv rfl rfl) ?_
    refine c_seq ?_
    intro K6 hK6
    refine c_region ?_
    refine L_val (v := .pointer none) (y_assign ev_c) ?_
    refine L_val (v := .int .i64 1) (y_assign ev_c) ?_
    refine l_nil ?_
    refine then_norm ?_
    refine hK6 _ _ ?_
    clear hK6
    refine c_ret ?_
    refine then_ret ?_
    exact body_2 rfl (ev_tv rfl rfl) (ev_tv rfl rfl) H
  · replace H := H.2 hb4
    have hq5 : Value.bool (decide ((a_harts1 : Int) < 1)) = Value.bool false := congrArg Value.bool (decide_eq_false hb4)
    refine G_val (dj := 10) rfl rfl hq5 (v := .int .i64 a_harts1) (y_move (ev_tv rfl rfl)) ?_
    refine G_val (dj := 10) rfl rfl hq5 (v := .bool (decide ((8 : Int) < a_harts1))) (y_gtr (ev_tv rfl rfl) ev_c) ?_
    refine L_val (v := .bool (decide ((8 : Int) < a_harts1))) (y_pick_f (ev_tv rfl hq5) (ev_tv rfl rfl)) ?_
    refine L_val (v := .bool (decide ((8 : Int) < a_harts1))) (y_move (ev_tv rfl rfl)) ?_
    rcases (Decidable.em ((8 : Int) < a_harts1)) with hb7 | hb7
    · replace H := H.1 hb7
      have hq8 : Value.bool (decide ((8 : Int) < a_harts1)) = Value.bool true := congrArg Value.bool (decide_eq_true hb7)
      refine G_not (b' := true) (dj := 14) rfl rfl hq8 rfl ?_
      refine G_not (b' := true) (dj := 14) rfl rfl hq8 rfl ?_
      refine L_val (v := .bool true) (y_pick_t (ev_tv rfl hq8) ev_c) ?_
      refine L_val (v := .bool true) (y_move (ev_tv rfl rfl)) ?_
      refine G_not (b' := true) (dj := 18) rfl rfl rfl rfl ?_
      refine G_not (b' := true) (dj := 18) rfl rfl rfl rfl ?_
      refine L_val (v := .bool true) (y_pick_t (ev_tv rfl rfl) ev_c) ?_
      refine l_nil ?_
      refine then_norm ?_
      refine hK3 _ _ ?_
      clear hK3
      refine cond_t (ev_tv rfl rfl) ?_
      refine c_seq ?_
      intro K9 hK9
      refine c_region ?_
      refine L_val (v := .pointer none) (y_assign ev_c) ?_
      refine L_val (v := .int .i64 1) (y_assign ev_c) ?_
      refine l_nil ?_
      refine then_norm ?_
      refine hK9 _ _ ?_
      clear hK9
      refine c_ret ?_
      refine then_ret ?_
      exact body_2 rfl (ev_tv rfl rfl) (ev_tv rfl rfl) H
    · replace H := H.2 hb7
      have hq8 : Value.bool (decide ((8 : Int) < a_harts1)) = Value.bool false := congrArg Value.bool (decide_eq_false hb7)
      refine G_val (dj := 14) rfl rfl hq8 (v := .int .i64 a_size2) (y_move (ev_tv rfl rfl)) ?_
      refine G_val (dj := 14) rfl rfl hq8 (v := .bool (decide ((a_size2 : Int) < 1))) (y_lss (ev_tv rfl rfl) ev_c) ?_
      refine L_val (v := .bool (decide ((a_size2 : Int) < 1))) (y_pick_f (ev_tv rfl hq8) (ev_tv rfl rfl)) ?_
      refine L_val (v := .bool (decide ((a_size2 : Int) < 1))) (y_move (ev_tv rfl rfl)) ?_
      rcases (Decidable.em ((a_size2 : Int) < 1)) with hb10 | hb10
      · replace H := H.1 hb10
        have hq11 : Value.bool (decide ((a_size2 : Int) < 1)) = Value.bool true := congrArg Value.bool (decide_eq_true hb10)
        refine G_not (b' := true) (dj := 18) rfl rfl hq11 rfl ?_
        refine G_not (b' := true) (dj := 18) rfl rfl hq11 rfl ?_
        refine L_val (v := .bool true) (y_pick_t (ev_tv rfl hq11) ev_c) ?_
        refine l_nil ?_
        refine then_norm ?_
        refine hK3 _ _ ?_
        clear hK3
        refine cond_t (ev_tv rfl rfl) ?_
        refine c_seq ?_
        intro K12 hK12
        refine c_region ?_
        refine L_val (v := .pointer none) (y_assign ev_c) ?_
        refine L_val (v := .int .i64 1) (y_assign ev_c) ?_
        refine l_nil ?_
        refine then_norm ?_
        refine hK12 _ _ ?_
        clear hK12
        refine c_ret ?_
        refine then_ret ?_
        exact body_2 rfl (ev_tv rfl rfl) (ev_tv rfl rfl) H
      · replace H := H.2 hb10
        have hq11 : Value.bool (decide ((a_size2 : Int) < 1)) = Value.bool false := congrArg Value.bool (decide_eq_false hb10)
        refine G_val (dj := 18) rfl rfl hq11 (v := .int .i64 a_size2) (y_move (ev_tv rfl rfl)) ?_
        refine G_val (dj := 18) rfl rfl hq11 (v := .bool (decide ((64 : Int) < a_size2))) (y_gtr (ev_tv rfl rfl) ev_c) ?_
        refine L_val (v := .bool (decide ((64 : Int) < a_size2))) (y_pick_f (ev_tv rfl hq11) (ev_tv rfl rfl)) ?_
        refine l_nil ?_
        refine then_norm ?_
        refine hK3 _ _ ?_
        clear hK3
        rcases (Decidable.em ((64 : Int) < a_size2)) with hb13 | hb13
        · replace H := H.1 hb13
          have hq14 : Value.bool (decide ((64 : Int) < a_size2)) = Value.bool true := congrArg Value.bool (decide_eq_true hb13)
          refine cond_t (ev_tv rfl hq14) ?_
          refine c_seq ?_
          intro K15 hK15
          refine c_region ?_
          refine L_val (v := .pointer none) (y_assign ev_c) ?_
          refine L_val (v := .int .i64 1) (y_assign ev_c) ?_
          refine l_nil ?_
          refine then_norm ?_
          refine hK15 _ _ ?_
          clear hK15
          refine c_ret ?_
          refine then_ret ?_
          exact body_2 rfl (ev_tv rfl rfl) (ev_tv rfl rfl) H
        · replace H := H.2 hb13
          have hq14 : Value.bool (decide ((64 : Int) < a_size2)) = Value.bool false := congrArg Value.bool (decide_eq_false hb13)
          refine cond_f (ev_tv rfl hq14) ?_
          refine c_skip ?_
          refine then_norm ?_
          refine hK2 _ _ ?_
          clear hK2
          refine c_seq ?_
          intro K16 hK16
          refine c_region ?_
          refine L_val (v := .int .i64 a_size2) (y_move (ev_tv rfl rfl)) ?_
          refine L_val (v := .int .i64 a_harts1) (y_move (ev_tv rfl rfl)) ?_
          obtain ⟨x4, x4l, x4c, w3, hc17, H⟩ := H
          refine L_val (v := .slice x4 x4l x4c) (y_makeSlice (ev_tv rfl rfl) (ev_tv rfl rfl) hc17) ?_
          obtain ⟨b5, hb18⟩ : ∃ b5 : Nat, b5 = World.heapSize w3 := ⟨_, rfl⟩
          obtain ⟨w6, hw19⟩ : ∃ w6 : World, w6 = World.alloc w3 (.map #[] 0) := ⟨_, rfl⟩
          replace H := H b5 w6 hb18 hw19
          refine L_val (v := .map (some b5)) (y_makeMap hb18 hw19) ?_
          refine L_val (v := .agg #[.int .i64 a_size2, .slice x4 x4l x4c, .int .i64 0, .map (some b5)]) (y_build (parts_ev3 (ev_tv rfl rfl) (ev_tv rfl rfl) (ev_tv rfl rfl)) (by kernel_rfl)) ?_
          obtain ⟨b7, hb20⟩ : ∃ b7 : Nat, b7 = World.heapSize w6 := ⟨_, rfl⟩
          obtain ⟨w8, hw21⟩ : ∃ w8 : World, w8 = World.alloc w6 (.cells #[.int .i64 a_size2, .slice x4 x4l x4c, .int .i64 0, .map (some b5)] 56) := ⟨_, rfl⟩
          replace H := H b7 w8 hb20 hw21
          refine L_val (v := .pointer (some ⟨b7, 0, none⟩)) (y_box (ev_tv rfl rfl) rfl hb20 hw21) ?_
          refine L_val (v := .pointer (some ⟨b7, 0, none⟩)) (y_assign (ev_tv rfl rfl)) ?_
          refine l_nil ?_
          refine then_norm ?_
          refine hK16 _ _ ?_
          clear hK16
          refine c_seq ?_
          intro K22 hK22
          refine c_seq ?_
          intro K23 hK23
          refine c_region ?_
          refine L_val (v := .pointer (some ⟨b7, 0, none⟩)) (y_move (ev_tv rfl rfl)) ?_
          refine L_val (v := .pointer (some ⟨b7, 0, none⟩)) (y_nilCheck (ev_tv rfl rfl)) ?_
          refine L_val (v := .pointer (some ⟨b7, 0 + 1, none⟩)) (Try.fa56_1 (ev_tv rfl rfl)) ?_
          obtain ⟨x9, x9l, x9c, hc24, H⟩ := H
          refine L_val (v := .slice x9 x9l x9c) (y_load Try.underlying53 rfl (ev_tv rfl rfl) hc24) ?_
          refine L_val (v := .int .i64 ((x9l : Nat) : Int)) (y_len Try.underlying53 rfl (map_ev1 (ev_tv rfl rfl))) ?_
          refine L_val (v := .int .i64 0) (y_move ev_c) ?_
          refine l_nil ?_
          refine then_norm ?_
          refine hK23 _ _ ?_
          clear hK23
          refine c_block ?_
          obtain ⟨I25, ⟨m29, HI30⟩, H⟩ := H
          refine loop_fr ([(7, 7), (33, 44)]) (fun m ff ww => ∃ (v10 : Int), ff 33 = (.int .i64 v10 : Value) ∧ I25 m v10 ww) m29 ⟨0, rfl, HI30⟩ ?_
          rintro m11 f26 w12 hag27 ⟨v10, hs31, HI28⟩
          replace H := H m11 v10 w12 HI28
          refine c_seq ?_
          intro K32 hK32
          refine c_region ?_
          refine L_val (v := .bool (decide ((v10 : Int) < ((x9l : Nat) : Int)))) (y_lss (ev_tv rfl hs31) (ev_tv rfl ((hag27 32 rfl).trans rfl))) ?_
          refine l_nil ?_
          refine then_norm ?_
          refine hK32 _ _ ?_
          clear hK32
          refine c_seq ?_
          intro K33 hK33
          rcases (Decidable.em ((v10 : Int) < ((x9l : Nat) : Int))) with hb34 | hb34
          · replace H := H.1 hb34
            have hq35 : Value.bool (decide ((v10 : Int) < ((x9l : Nat) : Int))) = Value.bool true := congrArg Value.bool (decide_eq_true hb34)
            refine cond_t (ev_tv rfl hq35) ?_
            refine c_skip ?_
            refine then_norm ?_
            refine hK33 _ _ ?_
            clear hK33
            refine c_seq ?_
            intro K36 hK36
            refine c_block ?_
            refine c_seq ?_
            intro K37 hK37
            refine c_region ?_
            refine L_val (v := .int .i64 v10) (y_move (ev_tv rfl hs31)) ?_
            refine L_val (v := .int .i64 v10) (y_assign (ev_tv rfl rfl)) ?_
            refine l_nil ?_
            refine then_norm ?_
            refine hK37 _ _ ?_
            clear hK37
            refine c_region ?_
            refine L_val (v := .pointer (some ⟨b7, 0, none⟩)) (y_move (ev_tv rfl ((hag27 6 rfl).trans rfl))) ?_
            refine L_val (v := .pointer (some ⟨b7, 0, none⟩)) (y_nilCheck (ev_tv rfl rfl)) ?_
            refine L_val (v := .pointer (some ⟨b7, 0 + 1, none⟩)) (Try.fa56_1 (ev_tv rfl rfl)) ?_
            obtain ⟨x13, x13l, x13c, hc38, H⟩ := H
            refine L_val (v := .slice x13 x13l x13c) (y_load Try.underlying53 rfl (ev_tv rfl rfl) hc38) ?_
            refine L_val (v := .int .i64 v10) (y_move (ev_tv rfl rfl)) ?_
            obtain ⟨b14, hb39⟩ : ∃ b14 : Nat, b14 = World.heapSize w12 := ⟨_, rfl⟩
            obtain ⟨w15, hw40⟩ : ∃ w15 : World, w15 = World.alloc w12 (.map #[] 0) := ⟨_, rfl⟩
            replace H := H b14 w15 hb39 hw40
            refine L_val (v := .map (some b14)) (y_makeMap hb39 hw40) ?_
            obtain ⟨b16, o17, rfl, H⟩ := H
            obtain ⟨hi41, hi42, H⟩ := H
            refine L_val (v := .pointer (some ⟨b16, o17 + (v10 : Int).toNat * 2, none⟩)) (y_ix Try.underlying53 Try.type59 rfl (ev_tv rfl rfl) (ev_tv rfl rfl) hi41 hi42) ?_
            refine L_val (v := .pointer (some ⟨b16, o17 + (v10 : Int).toNat * 2, none⟩)) (Try.fa59_0 (ev_tv rfl rfl)) ?_
            obtain ⟨hc43, hf44, H⟩ := H
            obtain ⟨w18, hw45⟩ : ∃ w18 : World, w18 = World.setCell w15 ⟨b16, o17 + (v10 : Int).toNat * 2, none⟩ (.map (some b14)) := ⟨_, rfl⟩
            replace H := H w18 hw45
            refine L_skip (y_store Try.type57 rfl rfl (ev_tv rfl rfl) (ev_tv rfl rfl) hc43 hf44 hw45) ?_
            refine l_nil ?_
            refine block_norm ?_
            refine then_norm ?_
            refine hK36 _ _ ?_
            clear hK36
            refine c_region ?_
            obtain ⟨r19, hr46⟩ : ∃ r19 : Int, r19 = IntKind.wrap .i64 (v10 + 1) := ⟨_, rfl⟩
            replace H := H r19 hr46
            refine L_val (v := .int .i64 r19) (y_add (ev_tv rfl hs31) ev_c hr46) ?_
            refine L_val (v := .int .i64 r19) (y_move (ev_tv rfl rfl)) ?_
            refine l_nil ?_
            refine then_norm ?_
            obtain ⟨m20, hm47, H⟩ := H
            exact ⟨_, rfl, (by repeat (first | exact agree_refl | exact hag27 | refine agree_upd rfl ?_ | refine agree_via hag27 rfl ?_)), m20, hm47, _, rfl, H⟩
          · replace H := H.2 hb34
            have hq35 : Value.bool (decide ((v10 : Int) < ((x9l : Nat) : Int))) = Value.bool false := congrArg Value.bool (decide_eq_false hb34)
            refine cond_f (ev_tv rfl hq35) ?_
            refine c_exit ?_
            refine then_exit ?_
            refine then_exit ?_
            refine block_hit ?_
            refine then_norm ?_
            refine hK22 _ _ ?_
            clear hK22
            refine c_seq ?_
            intro K48 hK48
            refine c_region ?_
            refine L_val (v := .pointer (some ⟨b7, 0, none⟩)) (y_move (ev_tv rfl ((hag27 6 rfl).trans rfl))) ?_
            refine L_val (v := .pointer (some ⟨b7, 0, none⟩)) (y_assign (ev_tv rfl rfl)) ?_
            refine L_val (v := .int .i64 0) (y_assign ev_c) ?_
            refine l_nil ?_
            refine then_norm ?_
            refine hK48 _ _ ?_
            clear hK48
            refine c_ret ?_
            exact body_2 rfl (ev_tv rfl rfl) (ev_tv rfl rfl) H

/-- parapet/parapetlaw07.lives -/
def Vc8  (w : World) (R : Ending → World → Prop) : Prop :=
  (Calls Try.prog 7 #[.int .i64 2, .int .i64 2] w fun e w3 => ∃ x1 : Option Addr, ∃ x2 : Int, e = .returned (.tuple #[.pointer x1, .int .i64 x2]) ∧ (((¬ ((x2 : Int) = 0)) → R (.returned (.bool false)) w3) ∧ (((x2 : Int) = 0) → (((x1 = none) → R (.returned (.bool false)) w3) ∧ ((x1 ≠ none) → (Calls Try.prog 9 #[.pointer x1, .int .i64 0, .agg #[.int .i64 1, .int .i64 5], .int .u32 7] w3 fun e w6 => ∃ x5 : Int, e = .returned (.int .i64 x5) ∧ (Calls Try.prog 9 #[.pointer x1, .int .i64 0, .agg #[.int .i64 1, .int .i64 6], .int .u32 8] w6 fun e w9 => ∃ x8 : Int, e = .returned (.int .i64 x8) ∧ (Calls Try.prog 9 #[.pointer x1, .int .i64 0, .agg #[.int .i64 2, .int .i64 5], .int .u32 9] w9 fun e w12 => ∃ x11 : Int, e = .returned (.int .i64 x11) ∧ (∀ (b14 : Nat) (w15 : World), b14 = World.heapSize w12 → w15 = World.alloc w12 (.cells #[.int .i64 0] 3) → (Calls Try.prog 10 #[.pointer x1, .int .i64 1, .slice (some ⟨b14, 0, none⟩) 1 1] w15 fun e w18 => ∃ x16 : Int, ∃ x17 : Int, e = .returned (.tuple #[.int .i64 x16, .int .i64 x17]) ∧ ((((x17 : Int) = 0) → ((((x16 : Int) = 1) → (Calls Try.prog 12 #[.pointer x1, .int .i64 1] w18 fun e w21 => ∃ x20 : Bool, e = .returned (.bool x20) ∧ (((x20 = true) → R (.returned (.bool false)) w21) ∧ ((x20 = false) → (Calls Try.prog 13 #[.pointer x1, .int .i64 0] w21 fun e w24 => ∃ x23 : Int, e = .returned (.int .i64 x23) ∧ ((((x23 : Int) = 1) → (Calls Try.prog 12 #[.pointer x1, .int .i64 1] w24 fun e w27 => ∃ x26 : Bool, e = .returned (.bool x26) ∧ (((x26 = true) → (Calls Try.prog 14 #[.pointer x1, .int .i64 0] w27 fun e w30 => ∃ x29 : Option Addr, ∃ x29l : Nat, ∃ x29c : Nat, e = .returned (.slice x29 x29l x29c) ∧ R (.returned (.bool (decide ((((x29l : Nat) : Int) : Int) = 1)))) w30)) ∧ ((x26 = false) → R (.returned (.bool false)) w27)))) ∧ ((¬ ((x23 : Int) = 1)) → R (.returned (.bool false)) w24))))))) ∧ ((¬ ((x16 : Int) = 1)) → R (.returned (.bool false)) w18))) ∧ ((¬ ((x17 : Int) = 0)) → R (.returned (.bool false)) w18))))))))))))

theorem vc8  {w : World} {R : Ending → World → Prop} (H : Vc8  w R) : Calls Try.prog 8 #[] w R := by
  unfold Vc8 at H
  refine calls_start [] Try.func8 rfl Try.ntmps8 rfl ?_
  refine c_seq ?_
  intro K1 hK1
  refine c_region ?_
  refine L_val (v := .bool false) (y_assign ev_c) ?_
  refine l_nil ?_
  refine then_norm ?_
  refine hK1 _ _ ?_
  clear hK1
  refine c_seq ?_
  intro K2 hK2
  refine c_region ?_
  refine L_call (y_call Try.call7 (map_ev2 ev_c ev_c) ev_f) (Calls.mono H ?_)
  clear H
  rintro _ w3 ⟨x1, x2, rfl, H⟩
  refine ⟨_, rfl, ?_⟩
  refine L_val (v := .tuple #[.pointer x1, .int .i64 x2]) (y_move (ev_tv rfl rfl)) ?_
  refine L_val (v := .pointer x1) (y_extract (ev_tv rfl rfl) rfl) ?_
  refine L_val (v := .int .i64 x2) (y_extract (ev_tv rfl rfl) rfl) ?_
  refine L_val (v := .pointer x1) (y_assign (ev_tv rfl rfl)) ?_
  refine L_val (v := .int .i64 x2) (y_assign (ev_tv rfl rfl)) ?_
  refine l_nil ?_
  refine then_norm ?_
  refine hK2 _ _ ?_
  clear hK2
  refine c_seq ?_
  intro K3 hK3
  refine c_seq ?_
  intro K4 hK4
  refine c_region ?_
  refine L_val (v := .int .i64 x2) (y_move (ev_tv rfl rfl)) ?_
  refine L_val (v := .bool (!decide ((x2 : Int) = 0))) (y_ine (ev_tv rfl rfl) ev_c) ?_
  refine L_val (v := .bool (!decide ((x2 : Int) = 0))) (y_move (ev_tv rfl rfl)) ?_
  rcases (Decidable.em ((x2 : Int) = 0)).symm with hb5 | hb5
  · replace H := H.1 hb5
    have hq6 : Value.bool (!decide ((x2 : Int) = 0)) = Value.bool true := congrArg Value.bool (ndec_t hb5)
    refine G_not (b' := true) (dj := 10) rfl rfl hq6 rfl ?_
    refine G_not (b' := true) (dj := 10) rfl rfl hq6 rfl ?_
    refine L_val (v := .bool true) (y_pick_t (ev_tv rfl hq6) ev_c) ?_
    refine l_nil ?_
    refine then_norm ?_
    refine hK4 _ _ ?_
    clear hK4
    refine cond_t (ev_tv rfl rfl) ?_
    refine c_seq ?_
    intro K7 hK7
    refine c_region ?_
    refine L_val (v := .bool false) (y_assign ev_c) ?_
    refine l_nil ?_
    refine then_norm ?_
    refine hK7 _ _ ?_
    clear hK7
    refine c_ret ?_
    refine then_ret ?_
    exact body_1 rfl (ev_tv rfl rfl) H
  · replace H := H.2 hb5
    have hq6 : Value.bool (!decide ((x2 : Int) = 0)) = Value.bool false := congrArg Value.bool (ndec_f hb5)
    refine G_val (dj := 10) rfl rfl hq6 (v := .pointer x1) (y_move (ev_tv rfl rfl)) ?_
    refine G_val (dj := 10) rfl rfl hq6 (v := .bool (x1.isNone)) (y_peq Try.underlying24 (ev_tv rfl rfl) ev_c) ?_
    refine L_val (v := .bool (x1.isNone)) (y_pick_f (ev_tv rfl hq6) (ev_tv rfl rfl)) ?_
    refine l_nil ?_
    refine then_norm ?_
    refine hK4 _ _ ?_
    clear hK4
    rcases (Classical.em (x1 = none)) with hb8 | hb8
    · replace H := H.1 hb8
      have hq9 : Value.bool (x1.isNone) = Value.bool true := congrArg Value.bool (isn_t hb8)
      refine cond_t (ev_tv rfl hq9) ?_
      refine c_seq ?_
      intro K10 hK10
      refine c_region ?_
      refine L_val (v := .bool false) (y_assign ev_c) ?_
      refine l_nil ?_
      refine then_norm ?_
      refine hK10 _ _ ?_
      clear hK10
      refine c_ret ?_
      refine then_ret ?_
      exact body_1 rfl (ev_tv rfl rfl) H
    · replace H := H.2 hb8
      have hq9 : Value.bool (x1.isNone) = Value.bool false := congrArg Value.bool (isn_f hb8)
      refine cond_f (ev_tv rfl hq9) ?_
      refine c_skip ?_
      refine then_norm ?_
      refine hK3 _ _ ?_
      clear hK3
      refine c_seq ?_
      intro K11 hK11
      refine c_region ?_
      refine L_val (v := .pointer x1) (y_move (ev_tv rfl rfl)) ?_
      refine L_val (v := .agg #[.int .i64 1, .int .i64 5]) (y_build (parts_ev2 ev_c ev_c) (by kernel_rfl)) ?_
      refine L_call (y_call Try.call9 (map_ev4 (ev_tv rfl rfl) ev_c (ev_tv rfl rfl) ev_c) ev_f) (Calls.mono H ?_)
      clear H
      rintro _ w6 ⟨x5, rfl, H⟩
      refine ⟨_, rfl, ?_⟩
      refine l_nil ?_
      refine then_norm ?_
      refine hK11 _ _ ?_
      clear hK11
      refine c_seq ?_
      intro K12 hK12
      refine c_region ?_
      refine L_val (v := .pointer x1) (y_move (ev_tv rfl rfl)) ?_
      refine L_val (v := .agg #[.int .i64 1, .int .i64 6]) (y_build (parts_ev2 ev_c ev_c) (by kernel_rfl)) ?_
      refine L_call (y_call Try.call9 (map_ev4 (ev_tv rfl rfl) ev_c (ev_tv rfl rfl) ev_c) ev_f) (Calls.mono H ?_)
      clear H
      rintro _ w9 ⟨x8, rfl, H⟩
      refine ⟨_, rfl, ?_⟩
      refine l_nil ?_
      refine then_norm ?_
      refine hK12 _ _ ?_
      clear hK12
      refine c_seq ?_
      intro K13 hK13
      refine c_region ?_
      refine L_val (v := .pointer x1) (y_move (ev_tv rfl rfl)) ?_
      refine L_val (v := .agg #[.int .i64 2, .int .i64 5]) (y_build (parts_ev2 ev_c ev_c) (by kernel_rfl)) ?_
      refine L_call (y_call Try.call9 (map_ev4 (ev_tv rfl rfl) ev_c (ev_tv rfl rfl) ev_c) ev_f) (Calls.mono H ?_)
      clear H
      rintro _ w12 ⟨x11, rfl, H⟩
      refine ⟨_, rfl, ?_⟩
      refine l_nil ?_
      refine then_norm ?_
      refine hK13 _ _ ?_
      clear hK13
      refine c_seq ?_
      intro K14 hK14
      refine c_region ?_
      refine L_val (v := .pointer x1) (y_move (ev_tv rfl rfl)) ?_
      obtain ⟨b14, hb15⟩ : ∃ b14 : Nat, b14 = World.heapSize w12 := ⟨_, rfl⟩
      obtain ⟨w15, hw16⟩ : ∃ w15 : World, w15 = World.alloc w12 (.cells #[.int .i64 0] 3) := ⟨_, rfl⟩
      replace H := H b14 w15 hb15 hw16
      refine L_val (v := .slice (some ⟨b14, 0, none⟩) 1 1) (y_buildSlice (parts_ev1 ev_c) hb15 hw16 (by kernel_rfl)) ?_
      refine L_call (y_call Try.call10 (map_ev3 (ev_tv rfl rfl) ev_c (ev_tv rfl rfl)) ev_f) (Calls.mono H ?_)
      clear H
      rintro _ w18 ⟨x16, x17, rfl, H⟩
      refine ⟨_, rfl, ?_⟩
      refine L_val (v := .tuple #[.int .i64 x16, .int .i64 x17]) (y_move (ev_tv rfl rfl)) ?_
      refine L_val (v := .int .i64 x16) (y_extract (ev_tv rfl rfl) rfl) ?_
      refine L_val (v := .int .i64 x17) (y_extract (ev_tv rfl rfl) rfl) ?_
      refine L_val (v := .int .i64 x16) (y_assign (ev_tv rfl rfl)) ?_
      refine L_val (v := .int .i64 x17) (y_assign (ev_tv rfl rfl)) ?_
      refine l_nil ?_
      refine then_norm ?_
      refine hK14 _ _ ?_
      clear hK14
      refine c_seq ?_
      intro K17 hK17
      refine c_region ?_
      refine L_val (v := .int .i64 x17) (y_move (ev_tv rfl rfl)) ?_
      refine L_val (v := .bool (decide ((x17 : Int) = 0))) (y_ieq (ev_tv rfl rfl) ev_c) ?_
      refine L_val (v := .bool (decide ((x17 : Int) = 0))) (y_move (ev_tv rfl rfl)) ?_
      rcases (Decidable.em ((x17 : Int) = 0)) with hb18 | hb18
      · replace H := H.1 hb18
        have hq19 : Value.bool (decide ((x17 : Int) = 0)) = Value.bool true := congrArg Value.bool (decide_eq_true hb18)
        refine G_val (dj := 31) rfl rfl hq19 (v := .int .i64 x16) (y_move (ev_tv rfl rfl)) ?_
        refine G_val (dj := 31) rfl rfl hq19 (v := .bool (decide ((x16 : Int) = 1))) (y_ieq (ev_tv rfl rfl) ev_c) ?_
        refine L_val (v := .bool (decide ((x16 : Int) = 1))) (y_pick_t (ev_tv rfl hq19) (ev_tv rfl rfl)) ?_
        refine L_val (v := .bool (decide ((x16 : Int) = 1))) (y_move (ev_tv rfl rfl)) ?_
        rcases (Decidable.em ((x16 : Int) = 1)) with hb20 | hb20
        · replace H := H.1 hb20
          have hq21 : Value.bool (decide ((x16 : Int) = 1)) = Value.bool true := congrArg Value.bool (decide_eq_true hb20)
          refine G_val (dj := 35) rfl rfl hq21 (v := .pointer x1) (y_move (ev_tv rfl rfl)) ?_
          refine G_call (dj := 35) rfl rfl hq21 (y_call Try.call12 (map_ev2 (ev_tv rfl rfl) ev_c) ev_f) (Calls.mono H ?_)
          clear H
          rintro _ w21 ⟨x20, rfl, H⟩
          refine ⟨_, rfl, ?_⟩
          rcases Bool.eq_false_or_eq_true x20 with hb22 | hb22
          · replace H := H.1 hb22
            have hq23 : Value.bool (x20) = Value.bool true := congrArg Value.bool hb22
            refine G_val (dj := 35) rfl rfl hq21 (v := .bool false) (y_not_t (ev_tv rfl hq23)) ?_
            refine L_val (v := .bool false) (y_pick_t (ev_tv rfl hq21) (ev_tv rfl rfl)) ?_
            refine L_val (v := .bool false) (y_move (ev_tv rfl rfl)) ?_
            refine G_not (b' := false) (dj := 40) rfl rfl rfl rfl ?_
            refine G_not (b' := false) (dj := 40) rfl rfl rfl rfl ?_
            refine G_not (b' := false) (dj := 40) rfl rfl rfl rfl ?_
            refine L_val (v := .bool false) (y_pick_f (ev_tv rfl rfl) ev_c) ?_
            refine L_val (v := .bool false) (y_move (ev_tv rfl rfl)) ?_
            refine G_not (b' := false) (dj := 45) rfl rfl rfl rfl ?_
            refine G_not (b' := false) (dj := 45) rfl rfl rfl rfl ?_
            refine L_val (v := .bool false) (y_pick_f (ev_tv rfl rfl) ev_c) ?_
            refine L_val (v := .bool false) (y_move (ev_tv rfl rfl)) ?_
            refine G_not (b' := false) (dj := 49) rfl rfl rfl rfl ?_
            refine G_not (b' := false) (dj := 49) rfl rfl rfl rfl ?_
            refine G_not (b' := false) (dj := 49) rfl rfl rfl rfl ?_
            refine G_not (b' := false) (dj := 49) rfl rfl rfl rfl ?_
            refine L_val (v := .bool false) (y_pick_f (ev_tv rfl rfl) ev_c) ?_
            refine L_val (v := .bool false) (y_assign (ev_tv rfl rfl)) ?_
            refine l_nil ?_
            refine then_norm ?_
            refine hK17 _ _ ?_
            clear hK17
            refine c_ret ?_
            exact body_1 rfl (ev_tv rfl rfl) H
          · replace H := H.2 hb22
            have hq23 : Value.bool (x20) = Value.bool false := congrArg Value.bool hb22
            refine G_val (dj := 35) rfl rfl hq21 (v := .bool true) (y_not_f (ev_tv rfl hq23)) ?_
            refine L_val (v := .bool true) (y_pick_t (ev_tv rfl hq21) (ev_tv rfl rfl)) ?_
            refine L_val (v := .bool true) (y_move (ev_tv rfl rfl)) ?_
            refine G_val (dj := 40) rfl rfl rfl (v := .pointer x1) (y_move (ev_tv rfl rfl)) ?_
            refine G_call (dj := 40) rfl rfl rfl (y_call Try.call13 (map_ev2 (ev_tv rfl rfl) ev_c) ev_f) (Calls.mono H ?_)
            clear H
            rintro _ w24 ⟨x23, rfl, H⟩
            refine ⟨_, rfl, ?_⟩
            refine G_val (dj := 40) rfl rfl rfl (v := .bool (decide ((x23 : Int) = 1))) (y_ieq (ev_tv rfl rfl) ev_c) ?_
            refine L_val (v := .bool (decide ((x23 : Int) = 1))) (y_pick_t (ev_tv rfl rfl) (ev_tv rfl rfl)) ?_
            refine L_val (v := .bool (decide ((x23 : Int) = 1))) (y_move (ev_tv rfl rfl)) ?_
            rcases (Decidable.em ((x23 : Int) = 1)) with hb24 | hb24
            · replace H := H.1 hb24
              have hq25 : Value.bool (decide ((x23 : Int) = 1)) = Value.bool true := congrArg Value.bool (decide_eq_true hb24)
              refine G_val (dj := 45) rfl rfl hq25 (v := .pointer x1) (y_move (ev_tv rfl rfl)) ?_
              refine G_call (dj := 45) rfl rfl hq25 (y_call Try.call12 (map_ev2 (ev_tv rfl rfl) ev_c) ev_f) (Calls.mono H ?_)
              clear H
              rintro _ w27 ⟨x26, rfl, H⟩
              refine ⟨_, rfl, ?_⟩
              refine L_val (v := .bool x26) (y_pick_t (ev_tv rfl hq25) (ev_tv rfl rfl)) ?_
              refine L_val (v := .bool x26) (y_move (ev_tv rfl rfl)) ?_
              rcases Bool.eq_false_or_eq_true x26 with hb26 | hb26
              · replace H := H.1 hb26
                have hq27 : Value.bool (x26) = Value.bool true := congrArg Value.bool hb26
                refine G_val (dj := 49) rfl rfl hq27 (v := .pointer x1) (y_move (ev_tv rfl rfl)) ?_
                refine G_call (dj := 49) rfl rfl hq27 (y_call Try.call14 (map_ev2 (ev_tv rfl rfl) ev_c) ev_f) (Calls.mono H ?_)
                clear H
                rintro _ w30 ⟨x29, x29l, x29c, rfl, H⟩
                refine ⟨_, rfl, ?_⟩
                refine G_val (dj := 49) rfl rfl hq27 (v := .int .i64 ((x29l : Nat) : Int)) (y_len Try.underlying40 rfl (map_ev1 (ev_tv rfl rfl))) ?_
                refine G_val (dj := 49) rfl rfl hq27 (v := .bool (decide ((((x29l : Nat) : Int) : Int) = 1))) (y_ieq (ev_tv rfl rfl) ev_c) ?_
                refine L_val (v := .bool (decide ((((x29l : Nat) : Int) : Int) = 1))) (y_pick_t (ev_tv rfl hq27) (ev_tv rfl rfl)) ?_
                refine L_val (v := .bool (decide ((((x29l : Nat) : Int) : Int) = 1))) (y_assign (ev_tv rfl rfl)) ?_
                refine l_nil ?_
                refine then_norm ?_
                refine hK17 _ _ ?_
                clear hK17
                refine c_ret ?_
                exact body_1 rfl (ev_tv rfl rfl) H
              · replace H := H.2 hb26
                have hq27 : Value.bool (x26) = Value.bool false := congrArg Value.bool hb26
                refine G_not (b' := false) (dj := 49) rfl rfl hq27 rfl ?_
                refine G_not (b' := false) (dj := 49) rfl rfl hq27 rfl ?_
                refine G_not (b' := false) (dj := 49) rfl rfl hq27 rfl ?_
                refine G_not (b' := false) (dj := 49) rfl rfl hq27 rfl ?_
                refine L_val (v := .bool false) (y_pick_f (ev_tv rfl hq27) ev_c) ?_
                refine L_val (v := .bool false) (y_assign (ev_tv rfl rfl)) ?_
                refine l_nil ?_
                refine then_norm ?_
                refine hK17 _ _ ?_
                clear hK17
                refine c_ret ?_
                exact body_1 rfl (ev_tv rfl rfl) H
            · replace H := H.2 hb24
              have hq25 : Value.bool (decide ((x23 : Int) = 1)) = Value.bool false := congrArg Value.bool (decide_eq_false hb24)
              refine G_not (b' := false) (dj := 45) rfl rfl hq25 rfl ?_
              refine G_not (b' := false) (dj := 45) rfl rfl hq25 rfl ?_
              refine L_val (v := .bool false) (y_pick_f (ev_tv rfl hq25) ev_c) ?_
              refine L_val (v := .bool false) (y_move (ev_tv rfl rfl)) ?_
              refine G_not (b' := false) (dj := 49) rfl rfl rfl rfl ?_
              refine G_not (b' := false) (dj := 49) rfl rfl rfl rfl ?_
              refine G_not (b' := false) (dj := 49) rfl rfl rfl rfl ?_
              refine G_not (b' := false) (dj := 49) rfl rfl rfl rfl ?_
              refine L_val (v := .bool false) (y_pick_f (ev_tv rfl rfl) ev_c) ?_
              refine L_val (v := .bool false) (y_assign (ev_tv rfl rfl)) ?_
              refine l_nil ?_
              refine then_norm ?_
              refine hK17 _ _ ?_
              clear hK17
              refine c_ret ?_
              exact body_1 rfl (ev_tv rfl rfl) H
        · replace H := H.2 hb20
          have hq21 : Value.bool (decide ((x16 : Int) = 1)) = Value.bool false := congrArg Value.bool (decide_eq_false hb20)
          refine G_not (b' := false) (dj := 35) rfl rfl hq21 rfl ?_
          refine G_not (b' := false) (dj := 35) rfl rfl hq21 rfl ?_
          refine G_not (b' := false) (dj := 35) rfl rfl hq21 rfl ?_
          refine L_val (v := .bool false) (y_pick_f (ev_tv rfl hq21) ev_c) ?_
          refine L_val (v := .bool false) (y_move (ev_tv rfl rfl)) ?_
          refine G_not (b' := false) (dj := 40) rfl rfl rfl rfl ?_
          refine G_not (b' := false) (dj := 40) rfl rfl rfl rfl ?_
          refine G_not (b' := false) (dj := 40) rfl rfl rfl rfl ?_
          refine L_val (v := .bool false) (y_pick_f (ev_tv rfl rfl) ev_c) ?_
          refine L_val (v := .bool false) (y_move (ev_tv rfl rfl)) ?_
          refine G_not (b' := false) (dj := 45) rfl rfl rfl rfl ?_
          refine G_not (b' := false) (dj := 45) rfl rfl rfl rfl ?_
          refine L_val (v := .bool false) (y_pick_f (ev_tv rfl rfl) ev_c) ?_
          refine L_val (v := .bool false) (y_move (ev_tv rfl rfl)) ?_
          refine G_not (b' := false) (dj := 49) rfl rfl rfl rfl ?_
          refine G_not (b' := false) (dj := 49) rfl rfl rfl rfl ?_
          refine G_not (b' := false) (dj := 49) rfl rfl rfl rfl ?_
          refine G_not (b' := false) (dj := 49) rfl rfl rfl rfl ?_
          refine L_val (v := .bool false) (y_pick_f (ev_tv rfl rfl) ev_c) ?_
          refine L_val (v := .bool false) (y_assign (ev_tv rfl rfl)) ?_
          refine l_nil ?_
          refine then_norm ?_
          refine hK17 _ _ ?_
          clear hK17
          refine c_ret ?_
          exact body_1 rfl (ev_tv rfl rfl) H
      · replace H := H.2 hb18
        have hq19 : Value.bool (decide ((x17 : Int) = 0)) = Value.bool false := congrArg Value.bool (decide_eq_false hb18)
        refine G_not (b' := false) (dj := 31) rfl rfl hq19 rfl ?_
        refine G_not (b' := false) (dj := 31) rfl rfl hq19 rfl ?_
        refine L_val (v := .bool false) (y_pick_f (ev_tv rfl hq19) ev_c) ?_
        refine L_val (v := .bool false) (y_move (ev_tv rfl rfl)) ?_
        refine G_not (b' := false) (dj := 35) rfl rfl rfl rfl ?_
        refine G_not (b' := false) (dj := 35) rfl rfl rfl rfl ?_
        refine G_not (b' := false) (dj := 35) rfl rfl rfl rfl ?_
        refine L_val (v := .bool false) (y_pick_f (ev_tv rfl rfl) ev_c) ?_
        refine L_val (v := .bool false) (y_move (ev_tv rfl rfl)) ?_
        refine G_not (b' := false) (dj := 40) rfl rfl rfl rfl ?_
        refine G_not (b' := false) (dj := 40) rfl rfl rfl rfl ?_
        refine G_not (b' := false) (dj := 40) rfl rfl rfl rfl ?_
        refine L_val (v := .bool false) (y_pick_f (ev_tv rfl rfl) ev_c) ?_
        refine L_val (v := .bool false) (y_move (ev_tv rfl rfl)) ?_
        refine G_not (b' := false) (dj := 45) rfl rfl rfl rfl ?_
        refine G_not (b' := false) (dj := 45) rfl rfl rfl rfl ?_
        refine L_val (v := .bool false) (y_pick_f (ev_tv rfl rfl) ev_c) ?_
        refine L_val (v := .bool false) (y_move (ev_tv rfl rfl)) ?_
        refine G_not (b' := false) (dj := 49) rfl rfl rfl rfl ?_
        refine G_not (b' := false) (dj := 49) rfl rfl rfl rfl ?_
        refine G_not (b' := false) (dj := 49) rfl rfl rfl rfl ?_
        refine G_not (b' := false) (dj := 49) rfl rfl rfl rfl ?_
        refine L_val (v := .bool false) (y_pick_f (ev_tv rfl rfl) ev_c) ?_
        refine L_val (v := .bool false) (y_assign (ev_tv rfl rfl)) ?_
        refine l_nil ?_
        refine then_norm ?_
        refine hK17 _ _ ?_
        clear hK17
        refine c_ret ?_
        exact body_1 rfl (ev_tv rfl rfl) H

/-- (parapet/tlb.Tlb).Fill -/
def Vc9 (a_t1 : Option Addr) (a_h2 : Int) (a_k3 : Int) (a_k4 : Int) (a_entry5 : Int) (w : World) (R : Ending → World → Prop) : Prop :=
  (∀ (b6 : Nat) (w7 : World), b6 = World.heapSize w → w7 = World.alloc w (.cells #[.int .i64 a_k3, .int .i64 a_k4] 31) → (((a_t1 = none) → R (.returned (.int .i64 6)) w7) ∧ ((a_t1 ≠ none) → (Calls Try.prog 20 #[.pointer a_t1, .int .i64 a_h2] w7 fun e w9 => ∃ x8 : Bool, e = .returned (.bool x8) ∧ (((x8 = true) → (∃ (b11 o12 : Nat), a_t1 = some ⟨b11, o12, none⟩ ∧ (∃ x13 : Option Addr, ∃ x13l : Nat, ∃ x13c : Nat, World.cell? w9 ⟨b11, o12 + 1, none⟩ = some (.slice x13 x13l x13c) ∧ (∃ (b14 o15 : Nat), x13 = some ⟨b14, o15, none⟩ ∧ ((0 : Int) ≤ a_h2 ∧ a_h2 < ((x13l : Nat) : Int) ∧ (∃ J17 : World → Prop, (∀  (w16 : World), J17  w16 → (∃ x17 : Option Nat, World.cell? (w16.drew) ⟨b14, o15 + (a_h2 : Int).toNat * 2, none⟩ = some (.map x17) ∧ (∃ x18 : Int, ∃ x19 : Int, CellsAt (w16.drew) ⟨b6, 0, none⟩ [.int .i64 x18, .int .i64 x19] ∧ (∃ w20 : World, (Instr.mapUpdate 57 (.map x17) (.agg #[.int .i64 x18, .int .i64 x19]) (.int .u32 a_entry5)).run Try.prog (w16.drew) = .ok () w20 ∧ R (.returned (.int .i64 0)) w20)))) ∧ (∃ x21 : Option Nat, World.cell? (w9.drew) ⟨b14, o15 + (a_h2 : Int).toNat * 2, none⟩ = some (.map x21) ∧ (∃ x22 : Int, ∃ x23 : Int, CellsAt (w9.drew) ⟨b6, 0, none⟩ [.int .i64 x22, .int .i64 x23] ∧ (∃ x24 : Int, ∃ ok25 : Bool, (Instr.lookup 57 (.map x21) (.agg #[.int .i64 x22, .int .i64 x23]) true).run Try.prog (w9.drew) = .ok (.tuple #[.int .u32 x24, .bool ok25]) (w9.drew) ∧ (((ok25 = true) → J17  (w9.drew)) ∧ ((ok25 = false) → (∃ J35 : World → Prop, (∀  (w26 : World), J35  w26 → (∃ x27 : Option Addr, ∃ x27l : Nat, ∃ x27c : Nat, World.cell? (w26.drew) ⟨b14, o15 + (a_h2 : Int).toNat * 2 + 1, none⟩ = some (.slice x27 x27l x27c) ∧ (∃ x28 : Int, ∃ x29 : Int, CellsAt (w26.drew) ⟨b6, 0, none⟩ [.int .i64 x28, .int .i64 x29] ∧ (∀ (b30 : Nat) (w31 : World), b30 = World.heapSize (w26.drew) → w31 = World.alloc (w26.drew) (.cells #[.int .i64 x28, .int .i64 x29] 31) → (World.cell? w31 ⟨b14, o15 + (a_h2 : Int).toNat * 2 + 1, none⟩ = some (.slice x27 x27l x27c) ∧ (∃ x33 : Option Addr, ∃ x33l : Nat, ∃ x33c : Nat, ∃ w32 : World, (Builtin.append_ #[40, 40] 40 #[.slice x27 x27l x27c, .slice (some ⟨b30, 0, none⟩) 1 1]).run Try.prog w31 = .ok (.slice x33 x33l x33c) w32 ∧ ((World.cell? w32 ⟨b14, o15 + (a_h2 : Int).toNat * 2 + 1, none⟩).isSome = true ∧ World.frozen? w32 ⟨b14, o15 + (a_h2 : Int).toNat * 2 + 1, none⟩ = false ∧ ∀ w34 : World, w34 = World.setCell w32 ⟨b14, o15 + (a_h2 : Int).toNat * 2 + 1, none⟩ (.slice x33 x33l x33c) → J17  w34))))))) ∧ (∃ x35 : Option Addr, ∃ x35l : Nat, ∃ x35c : Nat, World.cell? ((w9.drew).drew) ⟨b14, o15 + (a_h2 : Int).toNat * 2 + 1, none⟩ = some (.slice x35 x35l x35c) ∧ (∃ x36 : Int, World.cell? ((w9.drew).drew) ⟨b11, o12, none⟩ = some (.int .i64 x36) ∧ ((((x36 : Int) ≤ ((x35l : Nat) : Int)) → (∃ x37 : Option Nat, World.cell? (((w9.drew).drew).drew) ⟨b14, o15 + (a_h2 : Int).toNat * 2, none⟩ = some (.map x37) ∧ (∃ x38 : Option Addr, ∃ x38l : Nat, ∃ x38c : Nat, World.cell? (((w9.drew).drew).drew) ⟨b14, o15 + (a_h2 : Int).toNat * 2 + 1, none⟩ = some (.slice x38 x38l x38c) ∧ (∃ (b39 o40 : Nat), x38 = some ⟨b39, o40, none⟩ ∧ ((0 : Int) ≤ 0 ∧ 0 < ((x38l : Nat) : Int) ∧ (∃ x41 : Int, ∃ x42 : Int, CellsAt (((w9.drew).drew).drew) ⟨b39, o40 + (0 : Int).toNat * 2, none⟩ [.int .i64 x41, .int .i64 x42] ∧ (∃ w43 : World, (Builtin.delete_ #[57, 31] 0 #[.map x37, .agg #[.int .i64 x41, .int .i64 x42]]).run Try.prog (((w9.drew).drew).drew) = .ok (.tuple #[]) w43 ∧ (World.cell? w43 ⟨b14, o15 + (a_h2 : Int).toNat * 2 + 1, none⟩ = some (.slice x38 x38l x38c) ∧ (∃ x44 : Option Addr, ∃ x44l : Nat, ∃ x44c : Nat, World.cell? w43 ⟨b14, o15 + (a_h2 : Int).toNat * 2 + 1, none⟩ = some (.slice x44 x44l x44c) ∧ (Calls Try.prog 21 #[.slice x44 x44l x44c, .int .i64 0, .int .i64 1] w43 fun e w46 => ∃ x45 : Option Addr, ∃ x45l : Nat, ∃ x45c : Nat, e = .returned (.slice x45 x45l x45c) ∧ ((World.cell? w46 ⟨b14, o15 + (a_h2 : Int).toNat * 2 + 1, none⟩).isSome = true ∧ World.frozen? w46 ⟨b14, o15 + (a_h2 : Int).toNat * 2 + 1, none⟩ = false ∧ ∀ w48 : World, w48 = World.setCell w46 ⟨b14, o15 + (a_h2 : Int).toNat * 2 + 1, none⟩ (.slice x45 x45l x45c) → J35  w48))))))))))) ∧ ((¬ ((x36 : Int) ≤ ((x35l : Nat) : Int))) → J35  ((w9.drew).drew))))))))))))))))) ∧ ((x8 = false) → R (.returned (.int .i64 1)) w9))))))

theorem vc9 {a_t1 : Option Addr} {a_h2 : Int} {a_k3 : Int} {a_k4 : Int} {a_entry5 : Int} {w : World} {R : Ending → World → Prop} (H : Vc9 a_t1 a_h2 a_k3 a_k4 a_entry5 w R) : Calls Try.prog 9 #[.pointer a_t1, .int .i64 a_h2, .agg #[.int .i64 a_k3, .int .i64 a_k4], .int .u32 a_entry5] w R := by
  unfold Vc9 at H
  refine calls_start [.pointer a_t1, .int .i64 a_h2, .agg #[.int .i64 a_k3, .int .i64 a_k4], .int .u32 a_entry5] Try.func9 rfl Try.ntmps9 rfl ?_
  refine c_seq ?_
  intro K1 hK1
  refine c_region ?_
  obtain ⟨b6, hb2⟩ : ∃ b6 : Nat, b6 = World.heapSize w := ⟨_, rfl⟩
  obtain ⟨w7, hw3⟩ : ∃ w7 : World, w7 = World.alloc w (.cells #[.int .i64 a_k3, .int .i64 a_k4] 31) := ⟨_, rfl⟩
  replace H := H b6 w7 hb2 hw3
  refine L_val (v := .pointer (some ⟨b6, 0, none⟩)) (y_box (ev_tv rfl rfl) rfl hb2 hw3) ?_
  refine L_val (v := .int .i64 0) (y_assign ev_c) ?_
  refine l_nil ?_
  refine then_norm ?_
  refine hK1 _ _ ?_
  clear hK1
  refine c_seq ?_
  intro K4 hK4
  refine c_seq ?_
  intro K5 hK5
  refine c_region ?_
  refine L_val (v := .pointer a_t1) (y_move (ev_tv rfl rfl)) ?_
  refine L_val (v := .bool (a_t1.isNone)) (y_peq Try.underlying24 (ev_tv rfl rfl) ev_c) ?_
  refine l_nil ?_
  refine then_norm ?_
  refine hK5 _ _ ?_
  clear hK5
  rcases (Classical.em (a_t1 = none)) with hb6 | hb6
  · replace H := H.1 hb6
    have hq7 : Value.bool (a_t1.isNone) = Value.bool true := congrArg Value.bool (isn_t hb6)
    refine cond_t (ev_tv rfl hq7) ?_
    refine c_seq ?_
    intro K8 hK8
    refine c_region ?_
    refine L_val (v := .int .i64 6) (y_assign ev_c) ?_
    refine l_nil ?_
    refine then_norm ?_
    refine hK8 _ _ ?_
    clear hK8
    refine c_ret ?_
    refine then_ret ?_
    exact body_1 rfl (ev_tv rfl rfl) H
  · replace H := H.2 hb6
    have hq7 : Value.bool (a_t1.isNone) = Value.bool false := congrArg Value.bool (isn_f hb6)
    refine cond_f (ev_tv rfl hq7) ?_
    refine c_skip ?_
    refine then_norm ?_
    refine hK4 _ _ ?_
    clear hK4
    refine c_seq ?_
    intro K9 hK9
    refine c_seq ?_
    intro K10 hK10
    refine c_region ?_
    refine L_val (v := .pointer a_t1) (y_move (ev_tv rfl rfl)) ?_
    refine L_val (v := .int .i64 a_h2) (y_move (ev_tv rfl rfl)) ?_
    refine L_call (y_call Try.call20 (map_ev2 (ev_tv rfl rfl) (ev_tv rfl rfl)) ev_f) (Calls.mono H ?_)
    clear H
    rintro _ w9 ⟨x8, rfl, H⟩
    refine ⟨_, rfl, ?_⟩
    rcases Bool.eq_false_or_eq_true x8 with hb11 | hb11
    · replace H := H.1 hb11
      have hq12 : Value.bool (x8) = Value.bool true := congrArg Value.bool hb11
      refine L_val (v := .bool false) (y_not_t (ev_tv rfl hq12)) ?_
      refine l_nil ?_
      refine then_norm ?_
      refine hK10 _ _ ?_
      clear hK10
      refine cond_f (ev_tv rfl rfl) ?_
      refine c_skip ?_
      refine then_norm ?_
      refine hK9 _ _ ?_
      clear hK9
      refine c_seq ?_
      intro K13 hK13
      refine c_region ?_
      refine L_val (v := .pointer a_t1) (y_move (ev_tv rfl rfl)) ?_
      obtain ⟨b11, o12, rfl, H⟩ := H
      refine L_val (v := .pointer (some ⟨b11, o12, none⟩)) (y_nilCheck (ev_tv rfl rfl)) ?_
      refine L_val (v := .pointer (some ⟨b11, o12 + 1, none⟩)) (Try.fa56_1 (ev_tv rfl rfl)) ?_
      obtain ⟨x13, x13l, x13c, hc14, H⟩ := H
      refine L_val (v := .slice x13 x13l x13c) (y_load Try.underlying53 rfl (ev_tv rfl rfl) hc14) ?_
      refine L_val (v := .int .i64 a_h2) (y_move (ev_tv rfl rfl)) ?_
      obtain ⟨b14, o15, rfl, H⟩ := H
      obtain ⟨hi15, hi16, H⟩ := H
      refine L_val (v := .pointer (some ⟨b14, o15 + (a_h2 : Int).toNat * 2, none⟩)) (y_ix Try.underlying53 Try.type59 rfl (ev_tv rfl rfl) (ev_tv rfl rfl) hi15 hi16) ?_
      refine L_val (v := .pointer (some ⟨b14, o15 + (a_h2 : Int).toNat * 2, none⟩)) (y_assign (ev_tv rfl rfl)) ?_
      refine l_nil ?_
      refine then_norm ?_
      refine hK13 _ _ ?_
      clear hK13
      obtain ⟨J17, hJ18, H⟩ := H
      refine c_seqJ [(10, 11), (24, 72)] (fun ff ww => J17  ww) ?_ ?_
      · clear hJ18
        intro K22 hK22
        refine c_seq ?_
        intro K28 hK28
        refine D_start Try.mixed rfl [] ?_
        refine start_keep fun hS => ?_
        refine D_pure (i := 0) (v := .pointer (some ⟨b14, o15 + (a_h2 : Int).toNat * 2, none⟩)) rfl (by kernel_rfl) (W_none rfl) (fun _ => y_move (ev_tv rfl rfl)) hS ?_
        intro hS
        refine D_pure (i := 1) (v := .pointer (some ⟨b14, o15 + (a_h2 : Int).toNat * 2, none⟩)) rfl (by kernel_rfl) (W_none rfl) (fun _ => y_nilCheck (ev_tv rfl rfl)) hS ?_
        intro hS
        refine D_pure (i := 2) (v := .pointer (some ⟨b14, o15 + (a_h2 : Int).toNat * 2, none⟩)) rfl (by kernel_rfl) (W_none rfl) (fun _ => Try.fa59_0 (ev_tv rfl rfl)) hS ?_
        intro hS
        obtain ⟨x21, hc29, H⟩ := H
        refine D_read (i := 3) (v := .map x21) rfl (by kernel_rfl) (W_none rfl) (fun wx => World.cell? wx ⟨b14, o15 + (a_h2 : Int).toNat * 2, none⟩ = some (.map x21)) hc29 (fun _ hcx => y_load Try.underlying57 rfl (ev_tv rfl rfl) hcx) hS ?_
        intro hS
        obtain ⟨x22, x23, hc30, H⟩ := H
        refine D_read (i := 4) (v := .agg #[.int .i64 x22, .int .i64 x23]) rfl (by kernel_rfl) (W_none rfl) (fun wx => CellsAt wx ⟨b6, 0, none⟩ [.int .i64 x22, .int .i64 x23]) hc30 (fun _ hcx => y_loadAgg Try.underlying31 rfl Try.type31 rfl (ev_tv rfl rfl) hcx) hS ?_
        intro hS
        obtain ⟨x24, ok25, hc31, H⟩ := H
        refine D_read (i := 5) (v := .tuple #[.int .u32 x24, .bool ok25]) rfl (by kernel_rfl) (W_none rfl) (fun wx => (Instr.lookup 57 (.map x21) (.agg #[.int .i64 x22, .int .i64 x23]) true).run Try.prog wx = .ok (.tuple #[.int .u32 x24, .bool ok25]) wx) hc31 (fun _ hcx => y_lookup (ev_tv rfl rfl) (ev_tv rfl rfl) hcx) hS ?_
        intro hS
        refine D_pure (i := 6) (v := .tuple #[.int .u32 x24, .bool ok25]) rfl (by kernel_rfl) (W_none rfl) (fun _ => y_move (ev_tv rfl rfl)) hS ?_
        intro hS
        refine D_pure (i := 7) (v := .int .u32 x24) rfl (by kernel_rfl) (W_none rfl) (fun _ => y_extract (ev_tv rfl rfl) rfl) hS ?_
        intro hS
        refine D_pure (i := 8) (v := .bool ok25) rfl (by kernel_rfl) (W_none rfl) (fun _ => y_extract (ev_tv rfl rfl) rfl) hS ?_
        intro hS
        refine D_pure (i := 9) (v := .int .u32 x24) rfl (by kernel_rfl) (W_none rfl) (fun _ => y_assign (ev_tv rfl rfl)) hS ?_
        intro hS
        refine D_pure (i := 10) (v := .bool ok25) rfl (by kernel_rfl) (W_none rfl) (fun _ => y_assign (ev_tv rfl rfl)) hS ?_
        intro hS
        refine D_done (by kernel_rfl) ?_
        refine then_norm ?_
        refine hK28 _ _ ?_
        clear hK28
        refine c_seq ?_
        intro K32 hK32
        refine c_region ?_
        refine L_val (v := .bool ok25) (y_move (ev_tv rfl rfl)) ?_
        rcases Bool.eq_false_or_eq_true ok25 with hb33 | hb33
        · replace H := H.1 hb33
          have hq34 : Value.bool (ok25) = Value.bool true := congrArg Value.bool hb33
          refine L_val (v := .bool false) (y_not_t (ev_tv rfl hq34)) ?_
          refine l_nil ?_
          refine then_norm ?_
          refine hK32 _ _ ?_
          clear hK32
          refine cond_f (ev_tv rfl rfl) ?_
          refine c_skip ?_
          refine then_norm ?_
          exact hK22 _ _ (by repeat (first | exact agree_refl | refine agree_upd rfl ?_)) H
        · replace H := H.2 hb33
          have hq34 : Value.bool (ok25) = Value.bool false := congrArg Value.bool hb33
          refine L_val (v := .bool true) (y_not_f (ev_tv rfl hq34)) ?_
          refine l_nil ?_
          refine then_norm ?_
          refine hK32 _ _ ?_
          clear hK32
          refine cond_t (ev_tv rfl rfl) ?_
          obtain ⟨J35, hJ36, H⟩ := H
          refine c_seqJ [(35, 62)] (fun ff ww => J35  ww) ?_ ?_
          · clear hJ36
            intro K40 hK40
            refine c_seq ?_
            intro K50 hK50
            refine D_start Try.mixed rfl [] ?_
            refine start_keep fun hS => ?_
            refine D_pure (i := 0) (v := .pointer (some ⟨b14, o15 + (a_h2 : Int).toNat * 2, none⟩)) rfl (by kernel_rfl) (W_none rfl) (fun _ => y_move (ev_tv rfl rfl)) hS ?_
            intro hS
            refine D_pure (i := 1) (v := .pointer (some ⟨b14, o15 + (a_h2 : Int).toNat * 2, none⟩)) rfl (by kernel_rfl) (W_none rfl) (fun _ => y_nilCheck (ev_tv rfl rfl)) hS ?_
            intro hS
            refine D_pure (i := 2) (v := .pointer (some ⟨b14, o15 + (a_h2 : Int).toNat * 2 + 1, none⟩)) rfl (by kernel_rfl) (W_none rfl) (fun _ => Try.fa59_1 (ev_tv rfl rfl)) hS ?_
            intro hS
            refine D_pure (i := 5) (v := .pointer (some ⟨b11, o12, none⟩)) rfl (by kernel_rfl) (W_none rfl) (fun _ => y_move (ev_tv rfl rfl)) hS ?_
            intro hS
            refine D_pure (i := 6) (v := .pointer (some ⟨b11, o12, none⟩)) rfl (by kernel_rfl) (W_none rfl) (fun _ => y_nilCheck (ev_tv rfl rfl)) hS ?_
            intro hS
            refine D_pure (i := 7) (v := .pointer (some ⟨b11, o12, none⟩)) rfl (by kernel_rfl) (W_none rfl) (fun _ => Try.fa56_0 (ev_tv rfl rfl)) hS ?_
            intro hS
            obtain ⟨x35, x35l, x35c, hc51, H⟩ := H
            refine D_read (i := 3) (v := .slice x35 x35l x35c) rfl (by kernel_rfl) (W_none rfl) (fun wx => World.cell? wx ⟨b14, o15 + (a_h2 : Int).toNat * 2 + 1, none⟩ = some (.slice x35 x35l x35c)) hc51 (fun _ hcx => y_load Try.underlying40 rfl (ev_tv rfl rfl) hcx) hS ?_
            intro hS
            refine D_pure (i := 4) (v := .int .i64 ((x35l : Nat) : Int)) rfl (by kernel_rfl) (W_none rfl) (fun _ => y_len Try.underlying40 rfl (map_ev1 (ev_tv rfl rfl))) hS ?_
            intro hS
            obtain ⟨x36, hc52, H⟩ := H
            refine D_read (i := 8) (v := .int .i64 x36) rfl (by kernel_rfl) (W_none rfl) (fun wx => World.cell? wx ⟨b11, o12, none⟩ = some (.int .i64 x36)) hc52 (fun _ hcx => y_load Try.underlying3 rfl (ev_tv rfl rfl) hcx) hS ?_
            intro hS
            refine D_pure (i := 9) (v := .bool (decide ((x36 : Int) ≤ ((x35l : Nat) : Int)))) rfl (by kernel_rfl) (W_none rfl) (fun _ => y_geq (ev_tv rfl rfl) (ev_tv rfl rfl)) hS ?_
            intro hS
            refine D_done (by kernel_rfl) ?_
            refine then_norm ?_
            refine hK50 _ _ ?_
            clear hK50
            rcases (Decidable.em ((x36 : Int) ≤ ((x35l : Nat) : Int))) with hb53 | hb53
            · replace H := H.1 hb53
              have hq54 : Value.bool (decide ((x36 : Int) ≤ ((x35l : Nat) : Int))) = Value.bool true := congrArg Value.bool (decide_eq_true hb53)
              refine cond_t (ev_tv rfl hq54) ?_
              refine c_seq ?_
              intro K55 hK55
              refine D_start Try.mixed rfl [10] ?_
              refine start_keep fun hS => ?_
              refine D_pure (i := 0) (v := .pointer (some ⟨b14, o15 + (a_h2 : Int).toNat * 2, none⟩)) rfl (by kernel_rfl) (W_none rfl) (fun _ => y_move (ev_tv rfl rfl)) hS ?_
              intro hS
              refine D_pure (i := 1) (v := .pointer (some ⟨b14, o15 + (a_h2 : Int).toNat * 2, none⟩)) rfl (by kernel_rfl) (W_none rfl) (fun _ => y_nilCheck (ev_tv rfl rfl)) hS ?_
              intro hS
              refine D_pure (i := 2) (v := .pointer (some ⟨b14, o15 + (a_h2 : Int).toNat * 2, none⟩)) rfl (by kernel_rfl) (W_none rfl) (fun _ => Try.fa59_0 (ev_tv rfl rfl)) hS ?_
              intro hS
              refine D_pure (i := 4) (v := .pointer (some ⟨b14, o15 + (a_h2 : Int).toNat * 2, none⟩)) rfl (by kernel_rfl) (W_none rfl) (fun _ => y_move (ev_tv rfl rfl)) hS ?_
              intro hS
              refine D_pure (i := 5) (v := .pointer (some ⟨b14, o15 + (a_h2 : Int).toNat * 2, none⟩)) rfl (by kernel_rfl) (W_none rfl) (fun _ => y_nilCheck (ev_tv rfl rfl)) hS ?_
              intro hS
              refine D_pure (i := 6) (v := .pointer (some ⟨b14, o15 + (a_h2 : Int).toNat * 2 + 1, none⟩)) rfl (by kernel_rfl) (W_none rfl) (fun _ => Try.fa59_1 (ev_tv rfl rfl)) hS ?_
              intro hS
              obtain ⟨x37, hc56, H⟩ := H
              refine D_read (i := 3) (v := .map x37) rfl (by kernel_rfl) (W_none rfl) (fun wx => World.cell? wx ⟨b14, o15 + (a_h2 : Int).toNat * 2, none⟩ = some (.map x37)) hc56 (fun _ hcx => y_load Try.underlying57 rfl (ev_tv rfl rfl) hcx) hS ?_
              intro hS
              obtain ⟨x38, x38l, x38c, hc57, H⟩ := H
              refine D_read (i := 7) (v := .slice x38 x38l x38c) rfl (by kernel_rfl) (W_none rfl) (fun wx => World.cell? wx ⟨b14, o15 + (a_h2 : Int).toNat * 2 + 1, none⟩ = some (.slice x38 x38l x38c)) hc57 (fun _ hcx => y_load Try.underlying40 rfl (ev_tv rfl rfl) hcx) hS ?_
              intro hS
              obtain ⟨b39, o40, rfl, H⟩ := H
              obtain ⟨hi58, hi59, H⟩ := H
              refine D_pure (i := 8) (v := .pointer (some ⟨b39, o40 + (0 : Int).toNat * 2, none⟩)) rfl (by kernel_rfl) (W_none rfl) (fun _ => y_ix Try.underlying40 Try.type31 rfl (ev_tv rfl rfl) ev_c hi58 hi59) hS ?_
              intro hS
              obtain ⟨x41, x42, hc60, H⟩ := H
              refine D_read (i := 9) (v := .agg #[.int .i64 x41, .int .i64 x42]) rfl (by kernel_rfl) (W_none rfl) (fun wx => CellsAt wx ⟨b39, o40 + (0 : Int).toNat * 2, none⟩ [.int .i64 x41, .int .i64 x42]) hc60 (fun _ hcx => y_loadAgg Try.underlying31 rfl Try.type31 rfl (ev_tv rfl rfl) hcx) hS ?_
              intro hS
              refine D_only (i := 10) (by kernel_rfl) rfl ?_
              obtain ⟨w43, hc61, H⟩ := H
              refine O_valn (i := 10) (v := .tuple #[]) rfl (W_none rfl) (y_bi_delete (map_ev2 (ev_tv rfl rfl) (ev_tv rfl rfl)) hc61) ?_
              obtain ⟨hs66, H⟩ := H
              refine and_keep (SS_off (by kernel_rfl) (SS_on hs66 (SS_off (by kernel_rfl) SS_nil))) fun hS => ?_
              refine D_done (by kernel_rfl) ?_
              refine then_norm ?_
              refine hK55 _ _ ?_
              clear hK55
              refine c_region ?_
              refine L_val (v := .pointer (some ⟨b14, o15 + (a_h2 : Int).toNat * 2, none⟩)) (y_move (ev_tv rfl rfl)) ?_
              refine L_val (v := .pointer (some ⟨b14, o15 + (a_h2 : Int).toNat * 2, none⟩)) (y_move (ev_tv rfl rfl)) ?_
              refine L_val (v := .pointer (some ⟨b14, o15 + (a_h2 : Int).toNat * 2, none⟩)) (y_nilCheck (ev_tv rfl rfl)) ?_
              refine L_val (v := .pointer (some ⟨b14, o15 + (a_h2 : Int).toNat * 2 + 1, none⟩)) (Try.fa59_1 (ev_tv rfl rfl)) ?_
              obtain ⟨x44, x44l, x44c, hc62, H⟩ := H
              refine L_val (v := .slice x44 x44l x44c) (y_load Try.underlying40 rfl (ev_tv rfl rfl) hc62) ?_
              refine L_call (y_call Try.call21 (map_ev3 (ev_tv rfl rfl) ev_c ev_c) ev_f) (Calls.mono H ?_)
              clear H
              rintro _ w46 ⟨x45, x45l, x45c, rfl, H⟩
              refine ⟨_, rfl, ?_⟩
              refine L_val (v := .pointer (some ⟨b14, o15 + (a_h2 : Int).toNat * 2, none⟩)) (y_nilCheck (ev_tv rfl rfl)) ?_
              refine L_val (v := .pointer (some ⟨b14, o15 + (a_h2 : Int).toNat * 2 + 1, none⟩)) (Try.fa59_1 (ev_tv rfl rfl)) ?_
              obtain ⟨hc63, hf64, H⟩ := H
              obtain ⟨w48, hw65⟩ : ∃ w48 : World, w48 = World.setCell w46 ⟨b14, o15 + (a_h2 : Int).toNat * 2 + 1, none⟩ (.slice x45 x45l x45c) := ⟨_, rfl⟩
              replace H := H w48 hw65
              refine L_skip (y_store Try.type40 rfl rfl (ev_tv rfl rfl) (ev_tv rfl rfl) hc63 hf64 hw65) ?_
              refine l_nil ?_
              refine then_norm ?_
              exact hK40 _ _ (by repeat (first | exact agree_refl | refine agree_upd rfl ?_)) H
            · replace H := H.2 hb53
              have hq54 : Value.bool (decide ((x36 : Int) ≤ ((x35l : Nat) : Int))) = Value.bool false := congrArg Value.bool (decide_eq_false hb53)
              refine cond_f (ev_tv rfl hq54) ?_
              refine c_skip ?_
              refine then_norm ?_
              exact hK40 _ _ (by repeat (first | exact agree_refl | refine agree_upd rfl ?_)) H
          · clear H
            intro f37 w26 hag38 HJ39
            have H := hJ36  w26 HJ39
            clear hJ36
            refine D_start Try.mixed rfl [6, 7, 10] ?_
            refine start_keep fun hS => ?_
            refine D_pure (i := 0) (v := .pointer (some ⟨b14, o15 + (a_h2 : Int).toNat * 2, none⟩)) rfl (by kernel_rfl) (W_none rfl) (fun _ => y_move (ev_tv rfl ((hag38 9 rfl).trans rfl))) hS ?_
            intro hS
            refine D_pure (i := 1) (v := .pointer (some ⟨b14, o15 + (a_h2 : Int).toNat * 2, none⟩)) rfl (by kernel_rfl) (W_none rfl) (fun _ => y_move (ev_tv rfl ((hag38 9 rfl).trans rfl))) hS ?_
            intro hS
            refine D_pure (i := 2) (v := .pointer (some ⟨b14, o15 + (a_h2 : Int).toNat * 2, none⟩)) rfl (by kernel_rfl) (W_none rfl) (fun _ => y_nilCheck (ev_tv rfl rfl)) hS ?_
            intro hS
            refine D_pure (i := 3) (v := .pointer (some ⟨b14, o15 + (a_h2 : Int).toNat * 2 + 1, none⟩)) rfl (by kernel_rfl) (W_none rfl) (fun _ => Try.fa59_1 (ev_tv rfl rfl)) hS ?_
            intro hS
            obtain ⟨x27, x27l, x27c, hc41, H⟩ := H
            refine D_read (i := 4) (v := .slice x27 x27l x27c) rfl (by kernel_rfl) (W_none rfl) (fun wx => World.cell? wx ⟨b14, o15 + (a_h2 : Int).toNat * 2 + 1, none⟩ = some (.slice x27 x27l x27c)) hc41 (fun _ hcx => y_load Try.underlying40 rfl (ev_tv rfl rfl) hcx) hS ?_
            intro hS
            obtain ⟨x28, x29, hc42, H⟩ := H
            refine D_read (i := 5) (v := .agg #[.int .i64 x28, .int .i64 x29]) rfl (by kernel_rfl) (W_none rfl) (fun wx => CellsAt wx ⟨b6, 0, none⟩ [.int .i64 x28, .int .i64 x29]) hc42 (fun _ hcx => y_loadAgg Try.underlying31 rfl Try.type31 rfl (ev_tv rfl ((hag38 6 rfl).trans rfl)) hcx) hS ?_
            intro hS
            refine D_only (i := 6) (by kernel_rfl) rfl ?_
            obtain ⟨b30, hb43⟩ : ∃ b30 : Nat, b30 = World.heapSize (w26.drew) := ⟨_, rfl⟩
            obtain ⟨w31, hw44⟩ : ∃ w31 : World, w31 = World.alloc (w26.drew) (.cells #[.int .i64 x28, .int .i64 x29] 31) := ⟨_, rfl⟩
            replace H := H b30 w31 hb43 hw44
            refine O_val (i := 6) (v := .slice (some ⟨b30, 0, none⟩) 1 1) rfl (W_none rfl) (y_buildSlice (parts_ev1 (ev_tv rfl rfl)) hb43 hw44 (by kernel_rfl)) ?_
            obtain ⟨hs49, H⟩ := H
            refine and_keep (SS_off (by kernel_rfl) (SS_on hs49 SS_nil)) fun hS => ?_
            refine D_only (i := 7) (by kernel_rfl) rfl ?_
            obtain ⟨x33, x33l, x33c, w32, hc45, H⟩ := H
            refine O_val (i := 7) (v := .slice x33 x33l x33c) rfl (W_none rfl) (y_bi_append (map_ev2 (ev_tv rfl rfl) (ev_tv rfl rfl)) hc45) ?_
            refine and_keep (SS_off (by kernel_rfl) (SS_off (by kernel_rfl) SS_nil)) fun hS => ?_
            refine D_pure (i := 8) (v := .pointer (some ⟨b14, o15 + (a_h2 : Int).toNat * 2, none⟩)) rfl (by kernel_rfl) (W_none rfl) (fun _ => y_nilCheck (ev_tv rfl rfl)) hS ?_
            intro hS
            refine D_pure (i := 9) (v := .pointer (some ⟨b14, o15 + (a_h2 : Int).toNat * 2 + 1, none⟩)) rfl (by kernel_rfl) (W_none rfl) (fun _ => Try.fa59_1 (ev_tv rfl rfl)) hS ?_
            intro hS
            refine D_only (i := 10) (by kernel_rfl) rfl ?_
            obtain ⟨hc46, hf47, H⟩ := H
            obtain ⟨w34, hw48⟩ : ∃ w34 : World, w34 = World.setCell w32 ⟨b14, o15 + (a_h2 : Int).toNat * 2 + 1, none⟩ (.slice x33 x33l x33c) := ⟨_, rfl⟩
            replace H := H w34 hw48
            refine O_skip (i := 10) rfl (W_none rfl) (y_store Try.type40 rfl rfl (ev_tv rfl rfl) (ev_tv rfl rfl) hc46 hf47 hw48) ?_
            refine and_keep (SS_off (by kernel_rfl) (SS_off (by kernel_rfl) SS_nil)) fun hS => ?_
            refine D_done (by kernel_rfl) ?_
            refine then_norm ?_
            exact hK22 _ _ (by repeat (first | exact agree_refl | exact hag38 | refine agree_upd rfl ?_ | refine agree_via hag38 rfl ?_)) H
      · clear H
        intro f19 w16 hag20 HJ21
        have H := hJ18  w16 HJ21
        clear hJ18
        refine c_seq ?_
        intro K23 hK23
        refine D_start Try.mixed rfl [6] ?_
        refine start_keep fun hS => ?_
        refine D_pure (i := 0) (v := .pointer (some ⟨b14, o15 + (a_h2 : Int).toNat * 2, none⟩)) rfl (by kernel_rfl) (W_none rfl) (fun _ => y_move (ev_tv rfl ((hag20 9 rfl).trans rfl))) hS ?_
        intro hS
        refine D_pure (i := 1) (v := .pointer (some ⟨b14, o15 + (a_h2 : Int).toNat * 2, none⟩)) rfl (by kernel_rfl) (W_none rfl) (fun _ => y_nilCheck (ev_tv rfl rfl)) hS ?_
        intro hS
        refine D_pure (i := 2) (v := .pointer (some ⟨b14, o15 + (a_h2 : Int).toNat * 2, none⟩)) rfl (by kernel_rfl) (W_none rfl) (fun _ => Try.fa59_0 (ev_tv rfl rfl)) hS ?_
        intro hS
        refine D_pure (i := 5) (v := .int .u32 a_entry5) rfl (by kernel_rfl) (W_none rfl) (fun _ => y_move (ev_tv rfl ((hag20 3 rfl).trans rfl))) hS ?_
        intro hS
        obtain ⟨x17, hc24, H⟩ := H
        refine D_read (i := 3) (v := .map x17) rfl (by kernel_rfl) (W_none rfl) (fun wx => World.cell? wx ⟨b14, o15 + (a_h2 : Int).toNat * 2, none⟩ = some (.map x17)) hc24 (fun _ hcx => y_load Try.underlying57 rfl (ev_tv rfl rfl) hcx) hS ?_
        intro hS
        obtain ⟨x18, x19, hc25, H⟩ := H
        refine D_read (i := 4) (v := .agg #[.int .i64 x18, .int .i64 x19]) rfl (by kernel_rfl) (W_none rfl) (fun wx => CellsAt wx ⟨b6, 0, none⟩ [.int .i64 x18, .int .i64 x19]) hc25 (fun _ hcx => y_loadAgg Try.underlying31 rfl Try.type31 rfl (ev_tv rfl ((hag20 6 rfl).trans rfl)) hcx) hS ?_
        intro hS
        refine D_only (i := 6) (by kernel_rfl) rfl ?_
        obtain ⟨w20, hw26, H⟩ := H
        refine O_skip (i := 6) rfl (W_none rfl) (y_mapUpdate (ev_tv rfl rfl) (ev_tv rfl rfl) (ev_tv rfl rfl) hw26) ?_
        refine and_keep (SS_off (by kernel_rfl) (SS_off (by kernel_rfl) SS_nil)) fun hS => ?_
        refine D_done (by kernel_rfl) ?_
        refine then_norm ?_
        refine hK23 _ _ ?_
        clear hK23
        refine c_seq ?_
        intro K27 hK27
        refine c_region ?_
        refine L_val (v := .int .i64 0) (y_assign ev_c) ?_
        refine l_nil ?_
        refine then_norm ?_
        refine hK27 _ _ ?_
        clear hK27
        refine c_ret ?_
        exact body_1 rfl (ev_tv rfl rfl) H
    · replace H := H.2 hb11
      have hq12 : Value.bool (x8) = Value.bool false := congrArg Value.bool hb11
      refine L_val (v := .bool true) (y_not_f (ev_tv rfl hq12)) ?_
      refine l_nil ?_
      refine then_norm ?_
      refine hK10 _ _ ?_
      clear hK10
      refine cond_t (ev_tv rfl rfl) ?_
      refine c_seq ?_
      intro K67 hK67
      refine c_region ?_
      refine L_val (v := .int .i64 1) (y_assign ev_c) ?_
      refine l_nil ?_
      refine then_norm ?_
      refine hK67 _ _ ?_
      clear hK67
      refine c_ret ?_
      refine then_ret ?_
      exact body_1 rfl (ev_tv rfl rfl) H

end Go.Proofs.Ytdhdbdpemejpjaa
