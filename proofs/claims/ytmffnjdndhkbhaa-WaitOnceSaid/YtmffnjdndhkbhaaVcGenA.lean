/- For each Go function: what must be shown of it, and that this is enough. Printed by a program over the seat's translation. -/
import Derived.Test.YtmffnjdndhkbhaaChecked
import Derived.Test.YtmffnjdndhkbhaaVcOps
namespace Go.Proofs.Ytmffnjdndhkbhaa
open Go Go.Vc
set_option maxRecDepth 100000
set_option linter.unusedVariables false
set_option maxHeartbeats 2000000
theorem Try.mixed : Try.prog.follows .mixedOrders = true := by kernel_rfl


theorem Try.fa31_0 {w : World} {ρ : Operand → Value} {dst : Option Nat} {ty : Nat} {pos : String} {aft : Array Edge} {g : Option (Nat × Bool)} {x : Operand} {b o : Nat} (hx : ρ x = .pointer (some ⟨b, o, none⟩)) : (execOp ρ ⟨dst, .fieldAddr 31 x 0, ty, pos, aft, g⟩).run Try.prog w = .ok (.value (.pointer (some ⟨b, o, none⟩))) w :=
  y_fa (off := 0) (ft := 3) Try.underlying31 (by kernel_rfl) Try.type3 (sz := 0) (by kernel_rfl) hx
theorem Try.fa31_1 {w : World} {ρ : Operand → Value} {dst : Option Nat} {ty : Nat} {pos : String} {aft : Array Edge} {g : Option (Nat × Bool)} {x : Operand} {b o : Nat} (hx : ρ x = .pointer (some ⟨b, o, none⟩)) : (execOp ρ ⟨dst, .fieldAddr 31 x 1, ty, pos, aft, g⟩).run Try.prog w = .ok (.value (.pointer (some ⟨b, o + 1, none⟩))) w :=
  y_fa (off := 1) (ft := 3) Try.underlying31 (by kernel_rfl) Try.type3 (sz := 0) (by kernel_rfl) hx
theorem Try.fa31_2 {w : World} {ρ : Operand → Value} {dst : Option Nat} {ty : Nat} {pos : String} {aft : Array Edge} {g : Option (Nat × Bool)} {x : Operand} {b o : Nat} (hx : ρ x = .pointer (some ⟨b, o, none⟩)) : (execOp ρ ⟨dst, .fieldAddr 31 x 2, ty, pos, aft, g⟩).run Try.prog w = .ok (.value (.pointer (some ⟨b, o + 2, none⟩))) w :=
  y_fa (off := 2) (ft := 27) Try.underlying31 (by kernel_rfl) Try.type27 (sz := 0) (by kernel_rfl) hx
theorem Try.fa31_3 {w : World} {ρ : Operand → Value} {dst : Option Nat} {ty : Nat} {pos : String} {aft : Array Edge} {g : Option (Nat × Bool)} {x : Operand} {b o : Nat} (hx : ρ x = .pointer (some ⟨b, o, none⟩)) : (execOp ρ ⟨dst, .fieldAddr 31 x 3, ty, pos, aft, g⟩).run Try.prog w = .ok (.value (.pointer (some ⟨b, o + 3, none⟩))) w :=
  y_fa (off := 3) (ft := 29) Try.underlying31 (by kernel_rfl) Try.type29 (sz := 2) (by kernel_rfl) hx
theorem Try.fa31_5 {w : World} {ρ : Operand → Value} {dst : Option Nat} {ty : Nat} {pos : String} {aft : Array Edge} {g : Option (Nat × Bool)} {x : Operand} {b o : Nat} (hx : ρ x = .pointer (some ⟨b, o, none⟩)) : (execOp ρ ⟨dst, .fieldAddr 31 x 5, ty, pos, aft, g⟩).run Try.prog w = .ok (.value (.pointer (some ⟨b, o + 9, none⟩))) w :=
  y_fa (off := 9) (ft := 3) Try.underlying31 (by kernel_rfl) Try.type3 (sz := 0) (by kernel_rfl) hx
theorem Try.fa31_4 {w : World} {ρ : Operand → Value} {dst : Option Nat} {ty : Nat} {pos : String} {aft : Array Edge} {g : Option (Nat × Bool)} {x : Operand} {b o : Nat} (hx : ρ x = .pointer (some ⟨b, o, none⟩)) : (execOp ρ ⟨dst, .fieldAddr 31 x 4, ty, pos, aft, g⟩).run Try.prog w = .ok (.value (.pointer (some ⟨b, o + 6, none⟩))) w :=
  y_fa (off := 6) (ft := 29) Try.underlying31 (by kernel_rfl) Try.type29 (sz := 2) (by kernel_rfl) hx
theorem Try.fa52_1 {w : World} {ρ : Operand → Value} {dst : Option Nat} {ty : Nat} {pos : String} {aft : Array Edge} {g : Option (Nat × Bool)} {x : Operand} {b o : Nat} (hx : ρ x = .pointer (some ⟨b, o, none⟩)) : (execOp ρ ⟨dst, .fieldAddr 52 x 1, ty, pos, aft, g⟩).run Try.prog w = .ok (.value (.pointer (some ⟨b, o + 1, none⟩))) w :=
  y_fa (off := 1) (ft := 50) Try.underlying52 (by kernel_rfl) Try.type50 (sz := 0) (by kernel_rfl) hx
theorem Try.fa52_0 {w : World} {ρ : Operand → Value} {dst : Option Nat} {ty : Nat} {pos : String} {aft : Array Edge} {g : Option (Nat × Bool)} {x : Operand} {b o : Nat} (hx : ρ x = .pointer (some ⟨b, o, none⟩)) : (execOp ρ ⟨dst, .fieldAddr 52 x 0, ty, pos, aft, g⟩).run Try.prog w = .ok (.value (.pointer (some ⟨b, o, none⟩))) w :=
  y_fa (off := 0) (ft := 49) Try.underlying52 (by kernel_rfl) Try.type49 (sz := 0) (by kernel_rfl) hx

/-- parapet/parapetlaw12.WaitOnce -/
def Vc3 (a_do1 : Option Addr) (a_do1l : Nat) (a_do1c : Nat) (w : World) (R : Ending → World → Prop) : Prop :=
  (Calls Try.prog 5 #[] w fun e w3 => ∃ x2 : Option Addr, e = .returned (.pointer x2) ∧ (Calls Try.prog 6 #[] w3 fun e w6 => ∃ x5 : Bool, e = .returned (.bool x5) ∧ (((x5 = true) → (((x2 = none) → R (.returned (.bool false)) w6) ∧ ((x2 ≠ none) → (∀ (b8 : Nat) (w9 : World), b8 = World.heapSize w6 → w9 = World.alloc w6 (.map #[] 0) → (∃ J13 : World → Prop, (∀  (w10 : World), J13  w10 → (Calls Try.prog 13 #[.pointer x2] w10 fun e w12 => ∃ x11 : Option Addr, ∃ x11l : Nat, ∃ x11c : Nat, e = .returned (.slice x11 x11l x11c) ∧ (∃ I21 : Nat → Int → World → Prop, (∃ m, I21 m 0 w12) ∧ ∀ (m15 : Nat) (v14 : Int) (w16 : World), I21 m15 v14 w16 → ((((v14 : Int) < ((x11l : Nat) : Int)) → (∃ (b17 o18 : Nat), x11 = some ⟨b17, o18, none⟩ ∧ ((0 : Int) ≤ v14 ∧ v14 < ((x11l : Nat) : Int) ∧ (∃ x19 : Int, World.cell? w16 ⟨b17, o18 + (v14 : Int).toNat, none⟩ = some (.int .i64 x19) ∧ (∃ x20 : Bool, (Instr.lookup 26 (.map (some b8)) (.int .i64 x19) false).run Try.prog w16 = .ok (.bool x20) w16 ∧ (((x20 = true) → (∀ r21 : Int, r21 = IntKind.wrap .i64 (v14 + 1) → (∃ m22, m22 < m15 ∧ I21 m22 r21 w16))) ∧ ((x20 = false) → R (.returned (.bool false)) w16))))))) ∧ ((¬ ((v14 : Int) < ((x11l : Nat) : Int))) → (Calls Try.prog 13 #[.pointer x2] w16 fun e w24 => ∃ x23 : Option Addr, ∃ x23l : Nat, ∃ x23c : Nat, e = .returned (.slice x23 x23l x23c) ∧ (∃ n26 : Int, (Builtin.len_ #[26] 3 #[.map (some b8)]).run Try.prog w24 = .ok (.int .i64 n26) w24 ∧ R (.returned (.bool (decide ((((x23l : Nat) : Int) : Int) = n26)))) w24))))))) ∧ (∃ I47 : Nat → Int → World → Prop, (∃ m, I47 m 0 w9) ∧ ∀ (m28 : Nat) (v27 : Int) (w29 : World), I47 m28 v27 w29 → ((((v27 : Int) < ((a_do1l : Nat) : Int)) → (∃ (b30 o31 : Nat), a_do1 = some ⟨b30, o31, none⟩ ∧ ((0 : Int) ≤ v27 ∧ v27 < ((a_do1l : Nat) : Int) ∧ (∃ x32 : Int, ∃ x33 : Int, ∃ x34 : Option Addr, ∃ x34l : Nat, ∃ x34c : Nat, ∃ x35 : Int, ∃ x36 : Int, ∃ x37 : Int, ∃ x38 : Int, ∃ x39 : Int, ∃ x40 : Int, ∃ x41 : Int, CellsAt w29 ⟨b30, o31 + (v27 : Int).toNat * 10, none⟩ [.int .i64 x32, .int .i64 x33, .slice x34 x34l x34c, .int .i64 x35, .int .i64 x36, .int .i64 x37, .int .i64 x38, .int .i64 x39, .int .i64 x40, .int .i64 x41] ∧ (∀ (b42 : Nat) (w43 : World), b42 = World.heapSize w29 → w43 = World.alloc w29 (.cells #[.int .i64 0, .int .i64 0, .slice none 0 0, .int .i64 0, .int .i64 0, .int .i64 0, .int .i64 0, .int .i64 0, .int .i64 0, .int .i64 0] 31) → ((∀ j, j < 10 → (World.cell? w43 (Addr.add ⟨b42, 0, none⟩ j)).isSome = true ∧ World.frozen? w43 (Addr.add ⟨b42, 0, none⟩ j) = false) ∧ ∀ w44 : World, w44 = putCells w43 ⟨b42, 0, none⟩ [.int .i64 x32, .int .i64 x33, .slice x34 x34l x34c, .int .i64 x35, .int .i64 x36, .int .i64 x37, .int .i64 x38, .int .i64 x39, .int .i64 x40, .int .i64 x41] 0 → (∃ J68 : World → Prop, (∀  (w45 : World), J68  w45 → (Calls Try.prog 12 #[.pointer x2] w45 fun e w47 => ∃ x46 : Int, e = .returned (.int .i64 x46) ∧ (∃ n49 : Int, (Builtin.len_ #[26] 3 #[.map (some b8)]).run Try.prog w47 = .ok (.int .i64 n49) w47 ∧ (((¬ ((x46 : Int) = n49)) → R (.returned (.bool false)) w47) ∧ (((x46 : Int) = n49) → (∀ r50 : Int, r50 = IntKind.wrap .i64 (v27 + 1) → (∃ m51, m51 < m28 ∧ I47 m51 r50 w47))))))) ∧ (∃ x52 : Int, World.cell? w44 ⟨b42, 0, none⟩ = some (.int .i64 x52) ∧ ((((x52 : Int) = 0) → (∃ x53 : Int, World.cell? w44 ⟨b42, 0 + 1, none⟩ = some (.int .i64 x53) ∧ (∃ x54 : Option Addr, ∃ x54l : Nat, ∃ x54c : Nat, World.cell? w44 ⟨b42, 0 + 2, none⟩ = some (.slice x54 x54l x54c) ∧ (Calls Try.prog 7 #[.pointer x2, .int .i64 x53, .slice x54 x54l x54c] w44 fun e w56 => ∃ x55 : Int, e = .returned (.int .i64 x55) ∧ ((((x55 : Int) = 0) → (∃ x58 : Int, World.cell? w56 ⟨b42, 0 + 1, none⟩ = some (.int .i64 x58) ∧ (∃ x59 : Bool, (Instr.lookup 26 (.map (some b8)) (.int .i64 x58) false).run Try.prog w56 = .ok (.bool x59) w56 ∧ (((x59 = true) → R (.returned (.bool false)) w56) ∧ ((x59 = false) → (∃ x60 : Int, World.cell? w56 ⟨b42, 0 + 1, none⟩ = some (.int .i64 x60) ∧ (∃ w61 : World, (Instr.mapUpdate 26 (.map (some b8)) (.int .i64 x60) (.bool true)).run Try.prog w56 = .ok () w61 ∧ J68  w61))))))) ∧ ((¬ ((x55 : Int) = 0)) → J68  w56)))))) ∧ ((¬ ((x52 : Int) = 0)) → ((((x52 : Int) = 1) → (∃ x62 : Int, ∃ x63 : Int, ∃ x64 : Int, CellsAt w44 ⟨b42, 0 + 3, none⟩ [.int .i64 x62, .int .i64 x63, .int .i64 x64] ∧ (Calls Try.prog 8 #[.pointer x2, .agg #[.int .i64 x62, .int .i64 x63, .int .i64 x64]] w44 fun e w66 => ∃ x65 : Option Addr, ∃ x65l : Nat, ∃ x65c : Nat, e = .returned (.slice x65 x65l x65c) ∧ (∃ x68 : Int, ∃ x69 : Int, ∃ x70 : Int, CellsAt w66 ⟨b42, 0 + 3, none⟩ [.int .i64 x68, .int .i64 x69, .int .i64 x70] ∧ (∃ x71 : Int, World.cell? w66 ⟨b42, 0 + 9, none⟩ = some (.int .i64 x71) ∧ (Calls Try.prog 9 #[.pointer x2, .agg #[.int .i64 x68, .int .i64 x69, .int .i64 x70], .int .i64 x71] w66 fun e w73 => ∃ x72 : Option Addr, ∃ x72l : Nat, ∃ x72c : Nat, e = .returned (.slice x72 x72l x72c) ∧ (∃ x75 : Int, World.cell? w73 ⟨b42, 0 + 9, none⟩ = some (.int .i64 x75) ∧ (∀ r76 : Int, r76 = min ((x65l : Nat) : Int) x75 → (∀ r77 : Int, r77 = max 0 r76 → (((¬ ((((x72l : Nat) : Int) : Int) = r77)) → R (.returned (.bool false)) w73) ∧ (((((x72l : Nat) : Int) : Int) = r77) → (∃ I117 : Nat → Int → World → Prop, (∃ m, I117 m 0 w73) ∧ ∀ (m79 : Nat) (v78 : Int) (w80 : World), I117 m79 v78 w80 → ((((v78 : Int) < ((x72l : Nat) : Int)) → (∃ (b81 o82 : Nat), x72 = some ⟨b81, o82, none⟩ ∧ ((0 : Int) ≤ v78 ∧ v78 < ((x72l : Nat) : Int) ∧ (∃ x83 : Int, World.cell? w80 ⟨b81, o82 + (v78 : Int).toNat, none⟩ = some (.int .i64 x83) ∧ (∃ x84 : Bool, (Instr.lookup 26 (.map (some b8)) (.int .i64 x83) false).run Try.prog w80 = .ok (.bool x84) w80 ∧ (((x84 = true) → (∃ w85 : World, (Builtin.delete_ #[26, 3] 0 #[.map (some b8), .int .i64 x83]).run Try.prog w80 = .ok (.tuple #[]) w85 ∧ (∀ r86 : Int, r86 = IntKind.wrap .i64 (v78 + 1) → (∃ m87, m87 < m79 ∧ I117 m87 r86 w85)))) ∧ ((x84 = false) → R (.returned (.bool false)) w80))))))) ∧ ((¬ ((v78 : Int) < ((x72l : Nat) : Int))) → J68  w80)))))))))))))) ∧ ((¬ ((x52 : Int) = 1)) → ((((x52 : Int) = 2) → (∃ x88 : Int, World.cell? (w44.drew) ⟨b42, 0 + 1, none⟩ = some (.int .i64 x88) ∧ (∃ x89 : Int, World.cell? (w44.drew) ⟨b42, 0 + 1, none⟩ = some (.int .i64 x89) ∧ (∃ x90 : Bool, (Instr.lookup 26 (.map (some b8)) (.int .i64 x89) false).run Try.prog (w44.drew) = .ok (.bool x90) (w44.drew) ∧ (Calls Try.prog 10 #[.pointer x2, .int .i64 x88] (w44.drew) fun e w92 => ∃ x91 : Bool, e = .returned (.bool x91) ∧ ((Instr.lookup 26 (.map (some b8)) (.int .i64 x89) false).run Try.prog w92 = .ok (.bool x90) w92 ∧ World.cell? w92 ⟨b42, 0 + 1, none⟩ = some (.int .i64 x89) ∧ ((((!(x91 == x90)) = true) → R (.returned (.bool false)) w92) ∧ (((!(x91 == x90)) = false) → (∃ x93 : Int, World.cell? w92 ⟨b42, 0 + 1, none⟩ = some (.int .i64 x93) ∧ (∃ w94 : World, (Builtin.delete_ #[26, 3] 0 #[.map (some b8), .int .i64 x93]).run Try.prog w92 = .ok (.tuple #[]) w94 ∧ J68  w94)))))))))) ∧ ((¬ ((x52 : Int) = 2)) → ((((x52 : Int) = 3) → (∃ x95 : Int, ∃ x96 : Int, ∃ x97 : Int, CellsAt w44 ⟨b42, 0 + 3, none⟩ [.int .i64 x95, .int .i64 x96, .int .i64 x97] ∧ (∃ x98 : Int, ∃ x99 : Int, ∃ x100 : Int, CellsAt w44 ⟨b42, 0 + 6, none⟩ [.int .i64 x98, .int .i64 x99, .int .i64 x100] ∧ (∃ x101 : Int, World.cell? w44 ⟨b42, 0 + 9, none⟩ = some (.int .i64 x101) ∧ (Calls Try.prog 11 #[.pointer x2, .agg #[.int .i64 x95, .int .i64 x96, .int .i64 x97], .agg #[.int .i64 x98, .int .i64 x99, .int .i64 x100], .int .i64 x101] w44 fun e w103 => ∃ x102 : Int, e = .returned (.int .i64 x102) ∧ J68  w103))))) ∧ ((¬ ((x52 : Int) = 3)) → J68  w44)))))))))))))))) ∧ ((¬ ((v27 : Int) < ((a_do1l : Nat) : Int))) → J13  w29)))))))) ∧ ((x5 = false) → R (.returned (.bool false)) w6))))

theorem vc3 {a_do1 : Option Addr} {a_do1l : Nat} {a_do1c : Nat} {w : World} {R : Ending → World → Prop} (H : Vc3 a_do1 a_do1l a_do1c w R) : Calls Try.prog 3 #[.slice a_do1 a_do1l a_do1c] w R := by
  unfold Vc3 at H
  refine calls_start [.slice a_do1 a_do1l a_do1c] Try.func3 rfl Try.ntmps3 rfl ?_
  refine c_seq ?_
  intro K1 hK1
  refine c_region ?_
  refine L_val (v := .bool false) (y_assign ev_c) ?_
  refine l_nil ?_
  refine then_norm ?_
  refine hK1 _ _ ?_
  clear hK1
  refine c_seq ?_
  intro K2 hK2
  refine c_region ?_
  refine L_call (y_call Try.call5 map_ev0 ev_f) (Calls.mono H ?_)
  clear H
  rintro _ w3 ⟨x2, rfl, H⟩
  refine ⟨_, rfl, ?_⟩
  refine L_val (v := .pointer x2) (y_assign (ev_tv rfl rfl)) ?_
  refine l_nil ?_
  refine then_norm ?_
  refine hK2 _ _ ?_
  clear hK2
  refine c_seq ?_
  intro K3 hK3
  refine c_seq ?_
  intro K4 hK4
  refine c_region ?_
  refine L_call (y_call Try.call6 map_ev0 ev_f) (Calls.mono H ?_)
  clear H
  rintro _ w6 ⟨x5, rfl, H⟩
  refine ⟨_, rfl, ?_⟩
  rcases Bool.eq_false_or_eq_true x5 with hb5 | hb5
  · replace H := H.1 hb5
    have hq6 : Value.bool (x5) = Value.bool true := congrArg Value.bool hb5
    refine L_val (v := .bool false) (y_not_t (ev_tv rfl hq6)) ?_
    refine L_val (v := .bool false) (y_move (ev_tv rfl rfl)) ?_
    refine G_val (dj := 16) rfl rfl rfl (v := .pointer x2) (y_move (ev_tv rfl rfl)) ?_
    refine G_val (dj := 16) rfl rfl rfl (v := .bool (x2.isNone)) (y_peq Try.underlying23 (ev_tv rfl rfl) ev_c) ?_
    refine L_val (v := .bool (x2.isNone)) (y_pick_f (ev_tv rfl rfl) (ev_tv rfl rfl)) ?_
    refine l_nil ?_
    refine then_norm ?_
    refine hK4 _ _ ?_
    clear hK4
    rcases (Classical.em (x2 = none)) with hb7 | hb7
    · replace H := H.1 hb7
      have hq8 : Value.bool (x2.isNone) = Value.bool true := congrArg Value.bool (isn_t hb7)
      refine cond_t (ev_tv rfl hq8) ?_
      refine c_seq ?_
      intro K9 hK9
      refine c_region ?_
      refine L_val (v := .bool false) (y_assign ev_c) ?_
      refine l_nil ?_
      refine then_norm ?_
      refine hK9 _ _ ?_
      clear hK9
      refine c_ret ?_
      refine then_ret ?_
      exact body_1 rfl (ev_tv rfl rfl) H
    · replace H := H.2 hb7
      have hq8 : Value.bool (x2.isNone) = Value.bool false := congrArg Value.bool (isn_f hb7)
      refine cond_f (ev_tv rfl hq8) ?_
      refine c_skip ?_
      refine then_norm ?_
      refine hK3 _ _ ?_
      clear hK3
      refine c_seq ?_
      intro K10 hK10
      refine c_region ?_
      obtain ⟨b8, hb11⟩ : ∃ b8 : Nat, b8 = World.heapSize w6 := ⟨_, rfl⟩
      obtain ⟨w9, hw12⟩ : ∃ w9 : World, w9 = World.alloc w6 (.map #[] 0) := ⟨_, rfl⟩
      replace H := H b8 w9 hb11 hw12
      refine L_val (v := .map (some b8)) (y_makeMap hb11 hw12) ?_
      refine L_val (v := .map (some b8)) (y_assign (ev_tv rfl rfl)) ?_
      refine l_nil ?_
      refine then_norm ?_
      refine hK10 _ _ ?_
      clear hK10
      obtain ⟨J13, hJ14, H⟩ := H
      refine c_seqJ [(2, 2), (6, 8), (10, 10), (21, 108)] (fun ff ww => J13  ww) ?_ ?_
      · clear hJ14
        intro K18 hK18
        refine c_seq ?_
        intro K46 hK46
        refine c_region ?_
        refine L_val (v := .slice a_do1 a_do1l a_do1c) (y_move (ev_tv rfl rfl)) ?_
        refine L_val (v := .int .i64 ((a_do1l : Nat) : Int)) (y_len Try.underlying22 rfl (map_ev1 (ev_tv rfl rfl))) ?_
        refine L_val (v := .int .i64 0) (y_move ev_c) ?_
        refine l_nil ?_
        refine then_norm ?_
        refine hK46 _ _ ?_
        clear hK46
        refine c_block ?_
        obtain ⟨I47, ⟨m51, HI52⟩, H⟩ := H
        refine loop_fr ([(2, 2), (6, 8), (10, 10), (23, 108)]) (fun m ff ww => ∃ (v27 : Int), ff 23 = (.int .i64 v27 : Value) ∧ I47 m v27 ww) m51 ⟨0, rfl, HI52⟩ ?_
        rintro m28 f48 w29 hag49 ⟨v27, hs53, HI50⟩
        replace H := H m28 v27 w29 HI50
        refine c_seq ?_
        intro K54 hK54
        refine c_region ?_
        refine L_val (v := .bool (decide ((v27 : Int) < ((a_do1l : Nat) : Int)))) (y_lss (ev_tv rfl hs53) (ev_tv rfl ((hag49 22 rfl).trans rfl))) ?_
        refine l_nil ?_
        refine then_norm ?_
        refine hK54 _ _ ?_
        clear hK54
        refine c_seq ?_
        intro K55 hK55
        rcases (Decidable.em ((v27 : Int) < ((a_do1l : Nat) : Int))) with hb56 | hb56
        · replace H := H.1 hb56
          have hq57 : Value.bool (decide ((v27 : Int) < ((a_do1l : Nat) : Int))) = Value.bool true := congrArg Value.bool (decide_eq_true hb56)
          refine cond_t (ev_tv rfl hq57) ?_
          refine c_skip ?_
          refine then_norm ?_
          refine hK55 _ _ ?_
          clear hK55
          refine c_seq ?_
          intro K58 hK58
          refine c_block ?_
          refine c_seq ?_
          intro K59 hK59
          refine c_region ?_
          obtain ⟨b30, o31, rfl, H⟩ := H
          obtain ⟨hi60, hi61, H⟩ := H
          refine L_val (v := .pointer (some ⟨b30, o31 + (v27 : Int).toNat * 10, none⟩)) (y_ix Try.underlying22 Try.type31 rfl (ev_tv rfl ((hag49 21 rfl).trans rfl)) (ev_tv rfl hs53) hi60 hi61) ?_
          obtain ⟨x32, x33, x34, x34l, x34c, x35, x36, x37, x38, x39, x40, x41, hc62, H⟩ := H
          refine L_val (v := .agg #[.int .i64 x32, .int .i64 x33, .slice x34 x34l x34c, .int .i64 x35, .int .i64 x36, .int .i64 x37, .int .i64 x38, .int .i64 x39, .int .i64 x40, .int .i64 x41]) (y_loadAgg Try.underlying31 rfl Try.type31 rfl (ev_tv rfl rfl) hc62) ?_
          obtain ⟨b42, hb63⟩ : ∃ b42 : Nat, b42 = World.heapSize w29 := ⟨_, rfl⟩
          obtain ⟨w43, hw64⟩ : ∃ w43 : World, w43 = World.alloc w29 (.cells #[.int .i64 0, .int .i64 0, .slice none 0 0, .int .i64 0, .int .i64 0, .int .i64 0, .int .i64 0, .int .i64 0, .int .i64 0, .int .i64 0] 31) := ⟨_, rfl⟩
          replace H := H b42 w43 hb63 hw64
          refine L_val (v := .pointer (some ⟨b42, 0, none⟩)) (y_alloc Try.type31 rfl rfl hb63 hw64) ?_
          obtain ⟨hc65, H⟩ := H
          obtain ⟨w44, hw67⟩ : ∃ w44 : World, w44 = putCells w43 ⟨b42, 0, none⟩ [.int .i64 x32, .int .i64 x33, .slice x34 x34l x34c, .int .i64 x35, .int .i64 x36, .int .i64 x37, .int .i64 x38, .int .i64 x39, .int .i64 x40, .int .i64 x41] 0 := ⟨_, rfl⟩
          replace H := H w44 hw67
          refine L_skip (y_storeAgg Try.type31 rfl (by intro v hv; simp only [List.mem_cons, List.not_mem_nil, or_false] at hv; rcases hv with rfl | rfl | rfl | rfl | rfl | rfl | rfl | rfl | rfl | rfl <;> rfl) (ev_tv rfl rfl) (ev_tv rfl rfl) hc65 hw67) ?_
          refine l_nil ?_
          refine then_norm ?_
          refine hK59 _ _ ?_
          clear hK59
          obtain ⟨J68, hJ69, H⟩ := H
          refine c_seqJ [(2, 2), (7, 8), (10, 10), (27, 102)] (fun ff ww => J68  ww) ?_ ?_
          · clear hJ69
            intro K73 hK73
            refine c_seq ?_
            intro K81 hK81
            refine c_region ?_
            refine L_val (v := .pointer (some ⟨b42, 0, none⟩)) (Try.fa31_0 (ev_tv rfl rfl)) ?_
            obtain ⟨x52, hc82, H⟩ := H
            refine L_val (v := .int .i64 x52) (y_load Try.underlying3 rfl (ev_tv rfl rfl) hc82) ?_
            refine l_nil ?_
            refine then_norm ?_
            refine hK81 _ _ ?_
            clear hK81
            refine c_block ?_
            refine c_seq ?_
            intro K83 hK83
            refine c_region ?_
            refine L_val (v := .bool (decide ((x52 : Int) = 0))) (y_ieq (ev_tv rfl rfl) ev_c) ?_
            refine L_val (v := .bool (decide ((x52 : Int) = 0))) (y_assign (ev_tv rfl rfl)) ?_
            refine l_nil ?_
            refine then_norm ?_
            refine hK83 _ _ ?_
            clear hK83
            rcases (Decidable.em ((x52 : Int) = 0)) with hb84 | hb84
            · replace H := H.1 hb84
              have hq85 : Value.bool (decide ((x52 : Int) = 0)) = Value.bool true := congrArg Value.bool (decide_eq_true hb84)
              refine cond_t (ev_tv rfl hq85) ?_
              refine c_seq ?_
              intro K86 hK86
              refine c_region ?_
              refine L_val (v := .pointer x2) (y_move (ev_tv rfl ((hag49 3 rfl).trans rfl))) ?_
              refine L_val (v := .pointer (some ⟨b42, 0 + 1, none⟩)) (Try.fa31_1 (ev_tv rfl rfl)) ?_
              obtain ⟨x53, hc87, H⟩ := H
              refine L_val (v := .int .i64 x53) (y_load Try.underlying3 rfl (ev_tv rfl rfl) hc87) ?_
              refine L_val (v := .pointer (some ⟨b42, 0 + 2, none⟩)) (Try.fa31_2 (ev_tv rfl rfl)) ?_
              obtain ⟨x54, x54l, x54c, hc88, H⟩ := H
              refine L_val (v := .slice x54 x54l x54c) (y_load Try.underlying27 rfl (ev_tv rfl rfl) hc88) ?_
              refine L_call (y_call Try.call7 (map_ev3 (ev_tv rfl rfl) (ev_tv rfl rfl) (ev_tv rfl rfl)) ev_f) (Calls.mono H ?_)
              clear H
              rintro _ w56 ⟨x55, rfl, H⟩
              refine ⟨_, rfl, ?_⟩
              refine L_val (v := .bool (decide ((x55 : Int) = 0))) (y_ieq (ev_tv rfl rfl) ev_c) ?_
              refine l_nil ?_
              refine then_norm ?_
              refine hK86 _ _ ?_
              clear hK86
              rcases (Decidable.em ((x55 : Int) = 0)) with hb89 | hb89
              · replace H := H.1 hb89
                have hq90 : Value.bool (decide ((x55 : Int) = 0)) = Value.bool true := congrArg Value.bool (decide_eq_true hb89)
                refine cond_t (ev_tv rfl hq90) ?_
                refine c_seq ?_
                intro K91 hK91
                refine c_seq ?_
                intro K92 hK92
                refine c_region ?_
                refine L_val (v := .map (some b8)) (y_move (ev_tv rfl ((hag49 4 rfl).trans rfl))) ?_
                refine L_val (v := .pointer (some ⟨b42, 0 + 1, none⟩)) (Try.fa31_1 (ev_tv rfl rfl)) ?_
                obtain ⟨x58, hc93, H⟩ := H
                refine L_val (v := .int .i64 x58) (y_load Try.underlying3 rfl (ev_tv rfl rfl) hc93) ?_
                obtain ⟨x59, hc94, H⟩ := H
                refine L_val (v := .bool x59) (y_lookup (ev_tv rfl rfl) (ev_tv rfl rfl) hc94) ?_
                refine l_nil ?_
                refine then_norm ?_
                refine hK92 _ _ ?_
                clear hK92
                rcases Bool.eq_false_or_eq_true x59 with hb95 | hb95
                · replace H := H.1 hb95
                  have hq96 : Value.bool (x59) = Value.bool true := congrArg Value.bool hb95
                  refine cond_t (ev_tv rfl hq96) ?_
                  refine c_seq ?_
                  intro K97 hK97
                  refine c_region ?_
                  refine L_val (v := .bool false) (y_assign ev_c) ?_
                  refine l_nil ?_
                  refine then_norm ?_
                  refine hK97 _ _ ?_
                  clear hK97
                  refine c_ret ?_
                  refine then_ret ?_
                  refine block_ret ?_
                  refine then_ret ?_
                  refine block_ret ?_
                  refine then_ret ?_
                  refine then_ret ?_
                  refine block_ret ?_
                  refine then_ret ?_
                  exact body_1 rfl (ev_tv rfl rfl) H
                · replace H := H.2 hb95
                  have hq96 : Value.bool (x59) = Value.bool false := congrArg Value.bool hb95
                  refine cond_f (ev_tv rfl hq96) ?_
                  refine c_skip ?_
                  refine then_norm ?_
                  refine hK91 _ _ ?_
                  clear hK91
                  refine c_region ?_
                  refine L_val (v := .map (some b8)) (y_move (ev_tv rfl ((hag49 4 rfl).trans rfl))) ?_
                  refine L_val (v := .pointer (some ⟨b42, 0 + 1, none⟩)) (Try.fa31_1 (ev_tv rfl rfl)) ?_
                  obtain ⟨x60, hc98, H⟩ := H
                  refine L_val (v := .int .i64 x60) (y_load Try.underlying3 rfl (ev_tv rfl rfl) hc98) ?_
                  obtain ⟨w61, hw99, H⟩ := H
                  refine L_skip (y_mapUpdate (ev_tv rfl rfl) (ev_tv rfl rfl) ev_c hw99) ?_
                  refine l_nil ?_
                  refine block_norm ?_
                  refine then_norm ?_
                  exact hK73 _ _ (by repeat (first | exact agree_refl | exact hag49 | refine agree_upd rfl ?_ | refine agree_via hag49 rfl ?_)) H
              · replace H := H.2 hb89
                have hq90 : Value.bool (decide ((x55 : Int) = 0)) = Value.bool false := congrArg Value.bool (decide_eq_false hb89)
                refine cond_f (ev_tv rfl hq90) ?_
                refine c_skip ?_
                refine block_norm ?_
                refine then_norm ?_
                exact hK73 _ _ (by repeat (first | exact agree_refl | exact hag49 | refine agree_upd rfl ?_ | refine agree_via hag49 rfl ?_)) H
            · replace H := H.2 hb84
              have hq85 : Value.bool (decide ((x52 : Int) = 0)) = Value.bool false := congrArg Value.bool (decide_eq_false hb84)
              refine cond_f (ev_tv rfl hq85) ?_
              refine c_seq ?_
              intro K100 hK100
              refine c_region ?_
              refine L_val (v := .bool (decide ((x52 : Int) = 1))) (y_ieq (ev_tv rfl rfl) ev_c) ?_
              refine L_val (v := .bool (decide ((x52 : Int) = 1))) (y_assign (ev_tv rfl rfl)) ?_
              refine l_nil ?_
              refine then_norm ?_
              refine hK100 _ _ ?_
              clear hK100
              rcases (Decidable.em ((x52 : Int) = 1)) with hb101 | hb101
              · replace H := H.1 hb101
                have hq102 : Value.bool (decide ((x52 : Int) = 1)) = Value.bool true := congrArg Value.bool (decide_eq_true hb101)
                refine cond_t (ev_tv rfl hq102) ?_
                refine c_seq ?_
                intro K103 hK103
                refine c_region ?_
                refine L_val (v := .pointer x2) (y_move (ev_tv rfl ((hag49 3 rfl).trans rfl))) ?_
                refine L_val (v := .pointer (some ⟨b42, 0 + 3, none⟩)) (Try.fa31_3 (ev_tv rfl rfl)) ?_
                obtain ⟨x62, x63, x64, hc104, H⟩ := H
                refine L_val (v := .agg #[.int .i64 x62, .int .i64 x63, .int .i64 x64]) (y_loadAgg Try.underlying29 rfl Try.type29 rfl (ev_tv rfl rfl) hc104) ?_
                refine L_call (y_call Try.call8 (map_ev2 (ev_tv rfl rfl) (ev_tv rfl rfl)) ev_f) (Calls.mono H ?_)
                clear H
                rintro _ w66 ⟨x65, x65l, x65c, rfl, H⟩
                refine ⟨_, rfl, ?_⟩
                refine L_val (v := .int .i64 ((x65l : Nat) : Int)) (y_len Try.underlying34 rfl (map_ev1 (ev_tv rfl rfl))) ?_
                refine L_val (v := .int .i64 ((x65l : Nat) : Int)) (y_assign (ev_tv rfl rfl)) ?_
                refine l_nil ?_
                refine then_norm ?_
                refine hK103 _ _ ?_
                clear hK103
                refine c_seq ?_
                intro K105 hK105
                refine c_region ?_
                refine L_val (v := .pointer x2) (y_move (ev_tv rfl ((hag49 3 rfl).trans rfl))) ?_
                refine L_val (v := .pointer (some ⟨b42, 0 + 3, none⟩)) (Try.fa31_3 (ev_tv rfl rfl)) ?_
                obtain ⟨x68, x69, x70, hc106, H⟩ := H
                refine L_val (v := .agg #[.int .i64 x68, .int .i64 x69, .int .i64 x70]) (y_loadAgg Try.underlying29 rfl Try.type29 rfl (ev_tv rfl rfl) hc106) ?_
                refine L_val (v := .pointer (some ⟨b42, 0 + 9, none⟩)) (Try.fa31_5 (ev_tv rfl rfl)) ?_
                obtain ⟨x71, hc107, H⟩ := H
                refine L_val (v := .int .i64 x71) (y_load Try.underlying3 rfl (ev_tv rfl rfl) hc107) ?_
                refine L_call (y_call Try.call9 (map_ev3 (ev_tv rfl rfl) (ev_tv rfl rfl) (ev_tv rfl rfl)) ev_f) (Calls.mono H ?_)
                clear H
                rintro _ w73 ⟨x72, x72l, x72c, rfl, H⟩
                refine ⟨_, rfl, ?_⟩
                refine L_val (v := .slice x72 x72l x72c) (y_assign (ev_tv rfl rfl)) ?_
                refine l_nil ?_
                refine then_norm ?_
                refine hK105 _ _ ?_
                clear hK105
                refine c_seq ?_
                intro K108 hK108
                refine c_seq ?_
                intro K109 hK109
                refine c_region ?_
                refine L_val (v := .slice x72 x72l x72c) (y_move (ev_tv rfl rfl)) ?_
                refine L_val (v := .int .i64 ((x72l : Nat) : Int)) (y_len Try.underlying34 rfl (map_ev1 (ev_tv rfl rfl))) ?_
                refine L_val (v := .int .i64 ((x65l : Nat) : Int)) (y_move (ev_tv rfl rfl)) ?_
                refine L_val (v := .pointer (some ⟨b42, 0 + 9, none⟩)) (Try.fa31_5 (ev_tv rfl rfl)) ?_
                obtain ⟨x75, hc110, H⟩ := H
                refine L_val (v := .int .i64 x75) (y_load Try.underlying3 rfl (ev_tv rfl rfl) hc110) ?_
                obtain ⟨r76, hr111⟩ : ∃ r76 : Int, r76 = min ((x65l : Nat) : Int) x75 := ⟨_, rfl⟩
                replace H := H r76 hr111
                refine L_val (v := .int .i64 r76) (y_min (map_ev2 (ev_tv rfl rfl) (ev_tv rfl rfl)) hr111) ?_
                obtain ⟨r77, hr112⟩ : ∃ r77 : Int, r77 = max 0 r76 := ⟨_, rfl⟩
                replace H := H r77 hr112
                refine L_val (v := .int .i64 r77) (y_max (map_ev2 ev_c (ev_tv rfl rfl)) hr112) ?_
                refine L_val (v := .bool (!decide ((((x72l : Nat) : Int) : Int) = r77))) (y_ine (ev_tv rfl rfl) (ev_tv rfl rfl)) ?_
                refine l_nil ?_
                refine then_norm ?_
                refine hK109 _ _ ?_
                clear hK109
                rcases (Decidable.em ((((x72l : Nat) : Int) : Int) = r77)).symm with hb113 | hb113
                · replace H := H.1 hb113
                  have hq114 : Value.bool (!decide ((((x72l : Nat) : Int) : Int) = r77)) = Value.bool true := congrArg Value.bool (ndec_t hb113)
                  refine cond_t (ev_tv rfl hq114) ?_
                  refine c_seq ?_
                  intro K115 hK115
                  refine c_region ?_
                  refine L_val (v := .bool false) (y_assign ev_c) ?_
                  refine l_nil ?_
                  refine then_norm ?_
                  refine hK115 _ _ ?_
                  clear hK115
                  refine c_ret ?_
                  refine then_ret ?_
                  refine block_ret ?_
                  refine then_ret ?_
                  refine block_ret ?_
                  refine then_ret ?_
                  refine then_ret ?_
                  refine block_ret ?_
                  refine then_ret ?_
                  exact body_1 rfl (ev_tv rfl rfl) H
                · replace H := H.2 hb113
                  have hq114 : Value.bool (!decide ((((x72l : Nat) : Int) : Int) = r77)) = Value.bool false := congrArg Value.bool (ndec_f hb113)
                  refine cond_f (ev_tv rfl hq114) ?_
                  refine c_skip ?_
                  refine then_norm ?_
                  refine hK108 _ _ ?_
                  clear hK108
                  refine c_seq ?_
                  intro K116 hK116
                  refine c_region ?_
                  refine L_val (v := .slice x72 x72l x72c) (y_move (ev_tv rfl rfl)) ?_
                  refine L_val (v := .int .i64 ((x72l : Nat) : Int)) (y_len Try.underlying34 rfl (map_ev1 (ev_tv rfl rfl))) ?_
                  refine L_val (v := .int .i64 0) (y_move ev_c) ?_
                  refine l_nil ?_
                  refine then_norm ?_
                  refine hK116 _ _ ?_
                  clear hK116
                  refine c_block ?_
                  obtain ⟨I117, ⟨m121, HI122⟩, H⟩ := H
                  refine loop_fr ([(2, 2), (10, 10), (68, 78)]) (fun m ff ww => ∃ (v78 : Int), ff 68 = (.int .i64 v78 : Value) ∧ I117 m v78 ww) m121 ⟨0, rfl, HI122⟩ ?_
                  rintro m79 f118 w80 hag119 ⟨v78, hs123, HI120⟩
                  replace H := H m79 v78 w80 HI120
                  refine c_seq ?_
                  intro K124 hK124
                  refine c_region ?_
                  refine L_val (v := .bool (decide ((v78 : Int) < ((x72l : Nat) : Int)))) (y_lss (ev_tv rfl hs123) (ev_tv rfl ((hag119 67 rfl).trans rfl))) ?_
                  refine l_nil ?_
                  refine then_norm ?_
                  refine hK124 _ _ ?_
                  clear hK124
                  refine c_seq ?_
                  intro K125 hK125
                  rcases (Decidable.em ((v78 : Int) < ((x72l : Nat) : Int))) with hb126 | hb126
                  · replace H := H.1 hb126
                    have hq127 : Value.bool (decide ((v78 : Int) < ((x72l : Nat) : Int))) = Value.bool true := congrArg Value.bool (decide_eq_true hb126)
                    refine cond_t (ev_tv rfl hq127) ?_
                    refine c_skip ?_
                    refine then_norm ?_
                    refine hK125 _ _ ?_
                    clear hK125
                    refine c_seq ?_
                    intro K128 hK128
                    refine c_block ?_
                    refine c_seq ?_
                    intro K129 hK129
                    refine c_region ?_
                    obtain ⟨b81, o82, rfl, H⟩ := H
                    obtain ⟨hi130, hi131, H⟩ := H
                    refine L_val (v := .pointer (some ⟨b81, o82 + (v78 : Int).toNat, none⟩)) (y_ix1 Try.underlying34 Try.type3 rfl (ev_tv rfl ((hag119 66 rfl).trans rfl)) (ev_tv rfl hs123) hi130 hi131) ?_
                    obtain ⟨x83, hc132, H⟩ := H
                    refine L_val (v := .int .i64 x83) (y_load Try.underlying3 rfl (ev_tv rfl rfl) hc132) ?_
                    refine L_val (v := .int .i64 x83) (y_assign (ev_tv rfl rfl)) ?_
                    refine l_nil ?_
                    refine then_norm ?_
                    refine hK129 _ _ ?_
                    clear hK129
                    refine c_seq ?_
                    intro K133 hK133
                    refine c_seq ?_
                    intro K134 hK134
                    refine c_region ?_
                    refine L_val (v := .map (some b8)) (y_move (ev_tv rfl ((hag119 4 rfl).trans ((hag49 4 rfl).trans rfl)))) ?_
                    refine L_val (v := .int .i64 x83) (y_move (ev_tv rfl rfl)) ?_
                    obtain ⟨x84, hc135, H⟩ := H
                    refine L_val (v := .bool x84) (y_lookup (ev_tv rfl rfl) (ev_tv rfl rfl) hc135) ?_
                    rcases Bool.eq_false_or_eq_true x84 with hb136 | hb136
                    · replace H := H.1 hb136
                      have hq137 : Value.bool (x84) = Value.bool true := congrArg Value.bool hb136
                      refine L_val (v := .bool false) (y_not_t (ev_tv rfl hq137)) ?_
                      refine l_nil ?_
                      refine then_norm ?_
                      refine hK134 _ _ ?_
                      clear hK134
                      refine cond_f (ev_tv rfl rfl) ?_
                      refine c_skip ?_
                      refine then_norm ?_
                      refine hK133 _ _ ?_
                      clear hK133
                      refine c_region ?_
                      refine L_val (v := .map (some b8)) (y_move (ev_tv rfl ((hag119 4 rfl).trans ((hag49 4 rfl).trans rfl)))) ?_
                      refine L_val (v := .int .i64 x83) (y_move (ev_tv rfl rfl)) ?_
                      obtain ⟨w85, hc138, H⟩ := H
                      refine L_valn (v := .tuple #[]) (y_bi_delete (map_ev2 (ev_tv rfl rfl) (ev_tv rfl rfl)) hc138) ?_
                      refine l_nil ?_
                      refine block_norm ?_
                      refine then_norm ?_
                      refine hK128 _ _ ?_
                      clear hK128
                      refine c_region ?_
                      obtain ⟨r86, hr139⟩ : ∃ r86 : Int, r86 = IntKind.wrap .i64 (v78 + 1) := ⟨_, rfl⟩
                      replace H := H r86 hr139
                      refine L_val (v := .int .i64 r86) (y_add (ev_tv rfl hs123) ev_c hr139) ?_
                      refine L_val (v := .int .i64 r86) (y_move (ev_tv rfl rfl)) ?_
                      refine l_nil ?_
                      refine then_norm ?_
                      obtain ⟨m87, hm140, H⟩ := H
                      exact ⟨_, rfl, (by repeat (first | exact agree_refl | exact hag119 | exact hag49 | refine agree_upd rfl ?_ | refine agree_via hag119 rfl ?_ | refine agree_via hag49 rfl ?_)), m87, hm140, _, rfl, H⟩
                    · replace H := H.2 hb136
                      have hq137 : Value.bool (x84) = Value.bool false := congrArg Value.bool hb136
                      refine L_val (v := .bool true) (y_not_f (ev_tv rfl hq137)) ?_
                      refine l_nil ?_
                      refine then_norm ?_
                      refine hK134 _ _ ?_
                      clear hK134
                      refine cond_t (ev_tv rfl rfl) ?_
                      refine c_seq ?_
                      intro K141 hK141
                      refine c_region ?_
                      refine L_val (v := .bool false) (y_assign ev_c) ?_
                      refine l_nil ?_
                      refine then_norm ?_
                      refine hK141 _ _ ?_
                      clear hK141
                      refine c_ret ?_
                      refine then_ret ?_
                      refine block_ret ?_
                      refine then_ret ?_
                      refine then_ret ?_
                      refine block_ret ?_
                      refine block_ret ?_
                      refine then_ret ?_
                      refine block_ret ?_
                      refine then_ret ?_
                      refine then_ret ?_
                      refine block_ret ?_
                      refine then_ret ?_
                      exact body_1 rfl (ev_tv rfl rfl) H
                  · replace H := H.2 hb126
                    have hq127 : Value.bool (decide ((v78 : Int) < ((x72l : Nat) : Int))) = Value.bool false := congrArg Value.bool (decide_eq_false hb126)
                    refine cond_f (ev_tv rfl hq127) ?_
                    refine c_exit ?_
                    refine then_exit ?_
                    refine then_exit ?_
                    refine block_hit ?_
                    refine block_norm ?_
                    refine then_norm ?_
                    exact hK73 _ _ (by repeat (first | exact agree_refl | exact hag119 | exact hag49 | refine agree_upd rfl ?_ | refine agree_via hag119 rfl ?_ | refine agree_via hag49 rfl ?_)) H
              · replace H := H.2 hb101
                have hq102 : Value.bool (decide ((x52 : Int) = 1)) = Value.bool false := congrArg Value.bool (decide_eq_false hb101)
                refine cond_f (ev_tv rfl hq102) ?_
                refine c_seq ?_
                intro K142 hK142
                refine c_region ?_
                refine L_val (v := .bool (decide ((x52 : Int) = 2))) (y_ieq (ev_tv rfl rfl) ev_c) ?_
                refine L_val (v := .bool (decide ((x52 : Int) = 2))) (y_assign (ev_tv rfl rfl)) ?_
                refine l_nil ?_
                refine then_norm ?_
                refine hK142 _ _ ?_
                clear hK142
                rcases (Decidable.em ((x52 : Int) = 2)) with hb143 | hb143
                · replace H := H.1 hb143
                  have hq144 : Value.bool (decide ((x52 : Int) = 2)) = Value.bool true := congrArg Value.bool (decide_eq_true hb143)
                  refine cond_t (ev_tv rfl hq144) ?_
                  refine c_seq ?_
                  intro K145 hK145
                  refine c_seq ?_
                  intro K146 hK146
                  refine D_start Try.mixed rfl [3] ?_
                  refine start_keep fun hS => ?_
                  refine D_pure (i := 0) (v := .pointer x2) rfl (by kernel_rfl) (W_none rfl) (fun _ => y_move (ev_tv rfl ((hag49 3 rfl).trans rfl))) hS ?_
                  intro hS
                  refine D_pure (i := 1) (v := .pointer (some ⟨b42, 0 + 1, none⟩)) rfl (by kernel_rfl) (W_none rfl) (fun _ => Try.fa31_1 (ev_tv rfl rfl)) hS ?_
                  intro hS
                  refine D_pure (i := 4) (v := .map (some b8)) rfl (by kernel_rfl) (W_none rfl) (fun _ => y_move (ev_tv rfl ((hag49 4 rfl).trans rfl))) hS ?_
                  intro hS
                  refine D_pure (i := 5) (v := .pointer (some ⟨b42, 0 + 1, none⟩)) rfl (by kernel_rfl) (W_none rfl) (fun _ => Try.fa31_1 (ev_tv rfl rfl)) hS ?_
                  intro hS
                  obtain ⟨x88, hc147, H⟩ := H
                  refine D_read (i := 2) (v := .int .i64 x88) rfl (by kernel_rfl) (W_none rfl) (fun wx => World.cell? wx ⟨b42, 0 + 1, none⟩ = some (.int .i64 x88)) hc147 (fun _ hcx => y_load Try.underlying3 rfl (ev_tv rfl rfl) hcx) hS ?_
                  intro hS
                  obtain ⟨x89, hc148, H⟩ := H
                  refine D_read (i := 6) (v := .int .i64 x89) rfl (by kernel_rfl) (W_none rfl) (fun wx => World.cell? wx ⟨b42, 0 + 1, none⟩ = some (.int .i64 x89)) hc148 (fun _ hcx => y_load Try.underlying3 rfl (ev_tv rfl rfl) hcx) hS ?_
                  intro hS
                  obtain ⟨x90, hc149, H⟩ := H
                  refine D_read (i := 7) (v := .bool x90) rfl (by kernel_rfl) (W_none rfl) (fun wx => (Instr.lookup 26 (.map (some b8)) (.int .i64 x89) false).run Try.prog wx = .ok (.bool x90) wx) hc149 (fun _ hcx => y_lookup (ev_tv rfl rfl) (ev_tv rfl rfl) hcx) hS ?_
                  intro hS
                  refine D_only (i := 3) (by kernel_rfl) rfl ?_
                  refine O_call (i := 3) rfl (W_none rfl) (y_call Try.call10 (map_ev2 (ev_tv rfl rfl) (ev_tv rfl rfl)) ev_f) (Calls.mono H ?_)
                  clear H
                  rintro _ w92 ⟨x91, rfl, H⟩
                  refine ⟨_, rfl, ?_⟩
                  obtain ⟨hs155, hs156, H⟩ := H
                  refine and_keep (SS_on hs155 (SS_on hs156 (SS_off (by kernel_rfl) SS_nil))) fun hS => ?_
                  refine D_pure (i := 8) (v := .bool (!(x91 == x90))) rfl (by kernel_rfl) (W_none rfl) (fun _ => y_bne Try.underlying4 (ev_tv rfl rfl) (ev_tv rfl rfl)) hS ?_
                  intro hS
                  refine D_done (by kernel_rfl) ?_
                  refine then_norm ?_
                  refine hK146 _ _ ?_
                  clear hK146
                  rcases Bool.eq_false_or_eq_true (!(x91 == x90)) with hb150 | hb150
                  · replace H := H.1 hb150
                    have hq151 : Value.bool (!(x91 == x90)) = Value.bool true := congrArg Value.bool hb150
                    refine cond_t (ev_tv rfl hq151) ?_
                    refine c_seq ?_
                    intro K152 hK152
                    refine c_region ?_
                    refine L_val (v := .bool false) (y_assign ev_c) ?_
                    refine l_nil ?_
                    refine then_norm ?_
                    refine hK152 _ _ ?_
                    clear hK152
                    refine c_ret ?_
                    refine then_ret ?_
                    refine block_ret ?_
                    refine then_ret ?_
                    refine block_ret ?_
                    refine then_ret ?_
                    refine then_ret ?_
                    refine block_ret ?_
                    refine then_ret ?_
                    exact body_1 rfl (ev_tv rfl rfl) H
                  · replace H := H.2 hb150
                    have hq151 : Value.bool (!(x91 == x90)) = Value.bool false := congrArg Value.bool hb150
                    refine cond_f (ev_tv rfl hq151) ?_
                    refine c_skip ?_
                    refine then_norm ?_
                    refine hK145 _ _ ?_
                    clear hK145
                    refine c_region ?_
                    refine L_val (v := .map (some b8)) (y_move (ev_tv rfl ((hag49 4 rfl).trans rfl))) ?_
                    refine L_val (v := .pointer (some ⟨b42, 0 + 1, none⟩)) (Try.fa31_1 (ev_tv rfl rfl)) ?_
                    obtain ⟨x93, hc153, H⟩ := H
                    refine L_val (v := .int .i64 x93) (y_load Try.underlying3 rfl (ev_tv rfl rfl) hc153) ?_
                    obtain ⟨w94, hc154, H⟩ := H
                    refine L_valn (v := .tuple #[]) (y_bi_delete (map_ev2 (ev_tv rfl rfl) (ev_tv rfl rfl)) hc154) ?_
                    refine l_nil ?_
                    refine block_norm ?_
                    refine then_norm ?_
                    exact hK73 _ _ (by repeat (first | exact agree_refl | exact hag49 | refine agree_upd rfl ?_ | refine agree_via hag49 rfl ?_)) H
                · replace H := H.2 hb143
                  have hq144 : Value.bool (decide ((x52 : Int) = 2)) = Value.bool false := congrArg Value.bool (decide_eq_false hb143)
                  refine cond_f (ev_tv rfl hq144) ?_
                  refine c_seq ?_
                  intro K157 hK157
                  refine c_region ?_
                  refine L_val (v := .bool (decide ((x52 : Int) = 3))) (y_ieq (ev_tv rfl rfl) ev_c) ?_
                  refine L_val (v := .bool (decide ((x52 : Int) = 3))) (y_assign (ev_tv rfl rfl)) ?_
                  refine l_nil ?_
                  refine then_norm ?_
                  refine hK157 _ _ ?_
                  clear hK157
                  rcases (Decidable.em ((x52 : Int) = 3)) with hb158 | hb158
                  · replace H := H.1 hb158
                    have hq159 : Value.bool (decide ((x52 : Int) = 3)) = Value.bool true := congrArg Value.bool (decide_eq_true hb158)
                    refine cond_t (ev_tv rfl hq159) ?_
                    refine c_region ?_
                    refine L_val (v := .pointer x2) (y_move (ev_tv rfl ((hag49 3 rfl).trans rfl))) ?_
                    refine L_val (v := .pointer (some ⟨b42, 0 + 3, none⟩)) (Try.fa31_3 (ev_tv rfl rfl)) ?_
                    obtain ⟨x95, x96, x97, hc160, H⟩ := H
                    refine L_val (v := .agg #[.int .i64 x95, .int .i64 x96, .int .i64 x97]) (y_loadAgg Try.underlying29 rfl Try.type29 rfl (ev_tv rfl rfl) hc160) ?_
                    refine L_val (v := .pointer (some ⟨b42, 0 + 6, none⟩)) (Try.fa31_4 (ev_tv rfl rfl)) ?_
                    obtain ⟨x98, x99, x100, hc161, H⟩ := H
                    refine L_val (v := .agg #[.int .i64 x98, .int .i64 x99, .int .i64 x100]) (y_loadAgg Try.underlying29 rfl Try.type29 rfl (ev_tv rfl rfl) hc161) ?_
                    refine L_val (v := .pointer (some ⟨b42, 0 + 9, none⟩)) (Try.fa31_5 (ev_tv rfl rfl)) ?_
                    obtain ⟨x101, hc162, H⟩ := H
                    refine L_val (v := .int .i64 x101) (y_load Try.underlying3 rfl (ev_tv rfl rfl) hc162) ?_
                    refine L_call (y_call Try.call11 (map_ev4 (ev_tv rfl rfl) (ev_tv rfl rfl) (ev_tv rfl rfl) (ev_tv rfl rfl)) ev_f) (Calls.mono H ?_)
                    clear H
                    rintro _ w103 ⟨x102, rfl, H⟩
                    refine ⟨_, rfl, ?_⟩
                    refine l_nil ?_
                    refine block_norm ?_
                    refine then_norm ?_
                    exact hK73 _ _ (by repeat (first | exact agree_refl | exact hag49 | refine agree_upd rfl ?_ | refine agree_via hag49 rfl ?_)) H
                  · replace H := H.2 hb158
                    have hq159 : Value.bool (decide ((x52 : Int) = 3)) = Value.bool false := congrArg Value.bool (decide_eq_false hb158)
                    refine cond_f (ev_tv rfl hq159) ?_
                    refine c_skip ?_
                    refine block_norm ?_
                    refine then_norm ?_
                    exact hK73 _ _ (by repeat (first | exact agree_refl | exact hag49 | refine agree_upd rfl ?_ | refine agree_via hag49 rfl ?_)) H
          · clear H
            intro f70 w45 hag71 HJ72
            have H := hJ69  w45 HJ72
            clear hJ69
            refine c_seq ?_
            intro K74 hK74
            refine c_region ?_
            refine L_val (v := .pointer x2) (y_move (ev_tv rfl ((hag71 3 rfl).trans ((hag49 3 rfl).trans rfl)))) ?_
            refine L_call (y_call Try.call12 (map_ev1 (ev_tv rfl rfl)) ev_f) (Calls.mono H ?_)
            clear H
            rintro _ w47 ⟨x46, rfl, H⟩
            refine ⟨_, rfl, ?_⟩
            refine L_val (v := .map (some b8)) (y_move (ev_tv rfl ((hag71 4 rfl).trans ((hag49 4 rfl).trans rfl)))) ?_
            obtain ⟨n49, hc75, H⟩ := H
            refine L_val (v := .int .i64 n49) (y_bi_len (map_ev1 (ev_tv rfl rfl)) hc75) ?_
            refine L_val (v := .bool (!decide ((x46 : Int) = n49))) (y_ine (ev_tv rfl rfl) (ev_tv rfl rfl)) ?_
            refine l_nil ?_
            refine then_norm ?_
            refine hK74 _ _ ?_
            clear hK74
            rcases (Decidable.em ((x46 : Int) = n49)).symm with hb76 | hb76
            · replace H := H.1 hb76
              have hq77 : Value.bool (!decide ((x46 : Int) = n49)) = Value.bool true := congrArg Value.bool (ndec_t hb76)
              refine cond_t (ev_tv rfl hq77) ?_
              refine c_seq ?_
              intro K78 hK78
              refine c_region ?_
              refine L_val (v := .bool false) (y_assign ev_c) ?_
              refine l_nil ?_
              refine then_norm ?_
              refine hK78 _ _ ?_
              clear hK78
              refine c_ret ?_
              refine block_ret ?_
              refine then_ret ?_
              refine then_ret ?_
              refine block_ret ?_
              refine then_ret ?_
              exact body_1 rfl (ev_tv rfl rfl) H
            · replace H := H.2 hb76
              have hq77 : Value.bool (!decide ((x46 : Int) = n49)) = Value.bool false := congrArg Value.bool (ndec_f hb76)
              refine cond_f (ev_tv rfl hq77) ?_
              refine c_skip ?_
              refine block_norm ?_
              refine then_norm ?_
              refine hK58 _ _ ?_
              clear hK58
              refine c_region ?_
              obtain ⟨r50, hr79⟩ : ∃ r50 : Int, r50 = IntKind.wrap .i64 (v27 + 1) := ⟨_, rfl⟩
              replace H := H r50 hr79
              refine L_val (v := .int .i64 r50) (y_add (ev_tv rfl ((hag71 23 rfl).trans hs53)) ev_c hr79) ?_
              refine L_val (v := .int .i64 r50) (y_move (ev_tv rfl rfl)) ?_
              refine l_nil ?_
              refine then_norm ?_
              obtain ⟨m51, hm80, H⟩ := H
              exact ⟨_, rfl, (by repeat (first | exact agree_refl | exact hag71 | exact hag49 | refine agree_upd rfl ?_ | refine agree_via hag71 rfl ?_ | refine agree_via hag49 rfl ?_)), m51, hm80, _, rfl, H⟩
        · replace H := H.2 hb56
          have hq57 : Value.bool (decide ((v27 : Int) < ((a_do1l : Nat) : Int))) = Value.bool false := congrArg Value.bool (decide_eq_false hb56)
          refine cond_f (ev_tv rfl hq57) ?_
          refine c_exit ?_
          refine then_exit ?_
          refine then_exit ?_
          refine block_hit ?_
          refine then_norm ?_
          exact hK18 _ _ (by repeat (first | exact agree_refl | exact hag49 | refine agree_upd rfl ?_ | refine agree_via hag49 rfl ?_)) H
      · clear H
        intro f15 w10 hag16 HJ17
        have H := hJ14  w10 HJ17
        clear hJ14
        refine c_seq ?_
        intro K19 hK19
        refine c_seq ?_
        intro K20 hK20
        refine c_region ?_
        refine L_val (v := .pointer x2) (y_move (ev_tv rfl ((hag16 3 rfl).trans rfl))) ?_
        refine L_call (y_call Try.call13 (map_ev1 (ev_tv rfl rfl)) ev_f) (Calls.mono H ?_)
        clear H
        rintro _ w12 ⟨x11, x11l, x11c, rfl, H⟩
        refine ⟨_, rfl, ?_⟩
        refine L_val (v := .int .i64 ((x11l : Nat) : Int)) (y_len Try.underlying34 rfl (map_ev1 (ev_tv rfl rfl))) ?_
        refine L_val (v := .int .i64 0) (y_move ev_c) ?_
        refine l_nil ?_
        refine then_norm ?_
        refine hK20 _ _ ?_
        clear hK20
        refine c_block ?_
        obtain ⟨I21, ⟨m25, HI26⟩, H⟩ := H
        refine loop_fr ([(2, 2), (12, 12), (112, 120)]) (fun m ff ww => ∃ (v14 : Int), ff 112 = (.int .i64 v14 : Value) ∧ I21 m v14 ww) m25 ⟨0, rfl, HI26⟩ ?_
        rintro m15 f22 w16 hag23 ⟨v14, hs27, HI24⟩
        replace H := H m15 v14 w16 HI24
        refine c_seq ?_
        intro K28 hK28
        refine c_region ?_
        refine L_val (v := .bool (decide ((v14 : Int) < ((x11l : Nat) : Int)))) (y_lss (ev_tv rfl hs27) (ev_tv rfl ((hag23 111 rfl).trans rfl))) ?_
        refine l_nil ?_
        refine then_norm ?_
        refine hK28 _ _ ?_
        clear hK28
        refine c_seq ?_
        intro K29 hK29
        rcases (Decidable.em ((v14 : Int) < ((x11l : Nat) : Int))) with hb30 | hb30
        · replace H := H.1 hb30
          have hq31 : Value.bool (decide ((v14 : Int) < ((x11l : Nat) : Int))) = Value.bool true := congrArg Value.bool (decide_eq_true hb30)
          refine cond_t (ev_tv rfl hq31) ?_
          refine c_skip ?_
          refine then_norm ?_
          refine hK29 _ _ ?_
          clear hK29
          refine c_seq ?_
          intro K32 hK32
          refine c_block ?_
          refine c_seq ?_
          intro K33 hK33
          refine c_region ?_
          obtain ⟨b17, o18, rfl, H⟩ := H
          obtain ⟨hi34, hi35, H⟩ := H
          refine L_val (v := .pointer (some ⟨b17, o18 + (v14 : Int).toNat, none⟩)) (y_ix1 Try.underlying34 Try.type3 rfl (ev_tv rfl ((hag23 110 rfl).trans rfl)) (ev_tv rfl hs27) hi34 hi35) ?_
          obtain ⟨x19, hc36, H⟩ := H
          refine L_val (v := .int .i64 x19) (y_load Try.underlying3 rfl (ev_tv rfl rfl) hc36) ?_
          refine L_val (v := .int .i64 x19) (y_assign (ev_tv rfl rfl)) ?_
          refine l_nil ?_
          refine then_norm ?_
          refine hK33 _ _ ?_
          clear hK33
          refine c_seq ?_
          intro K37 hK37
          refine c_region ?_
          refine L_val (v := .map (some b8)) (y_move (ev_tv rfl ((hag23 4 rfl).trans ((hag16 4 rfl).trans rfl)))) ?_
          refine L_val (v := .int .i64 x19) (y_move (ev_tv rfl rfl)) ?_
          obtain ⟨x20, hc38, H⟩ := H
          refine L_val (v := .bool x20) (y_lookup (ev_tv rfl rfl) (ev_tv rfl rfl) hc38) ?_
          rcases Bool.eq_false_or_eq_true x20 with hb39 | hb39
          · replace H := H.1 hb39
            have hq40 : Value.bool (x20) = Value.bool true := congrArg Value.bool hb39
            refine L_val (v := .bool false) (y_not_t (ev_tv rfl hq40)) ?_
            refine l_nil ?_
            refine then_norm ?_
            refine hK37 _ _ ?_
            clear hK37
            refine cond_f (ev_tv rfl rfl) ?_
            refine c_skip ?_
            refine block_norm ?_
            refine then_norm ?_
            refine hK32 _ _ ?_
            clear hK32
            refine c_region ?_
            obtain ⟨r21, hr41⟩ : ∃ r21 : Int, r21 = IntKind.wrap .i64 (v14 + 1) := ⟨_, rfl⟩
            replace H := H r21 hr41
            refine L_val (v := .int .i64 r21) (y_add (ev_tv rfl hs27) ev_c hr41) ?_
            refine L_val (v := .int .i64 r21) (y_move (ev_tv rfl rfl)) ?_
            refine l_nil ?_
            refine then_norm ?_
            obtain ⟨m22, hm42, H⟩ := H
            exact ⟨_, rfl, (by repeat (first | exact agree_refl | exact hag23 | exact hag16 | refine agree_upd rfl ?_ | refine agree_via hag23 rfl ?_ | refine agree_via hag16 rfl ?_)), m22, hm42, _, rfl, H⟩
          · replace H := H.2 hb39
            have hq40 : Value.bool (x20) = Value.bool false := congrArg Value.bool hb39
            refine L_val (v := .bool true) (y_not_f (ev_tv rfl hq40)) ?_
            refine l_nil ?_
            refine then_norm ?_
            refine hK37 _ _ ?_
            clear hK37
            refine cond_t (ev_tv rfl rfl) ?_
            refine c_seq ?_
            intro K43 hK43
            refine c_region ?_
            refine L_val (v := .bool false) (y_assign ev_c) ?_
            refine l_nil ?_
            refine then_norm ?_
            refine hK43 _ _ ?_
            clear hK43
            refine c_ret ?_
            refine block_ret ?_
            refine then_ret ?_
            refine then_ret ?_
            refine block_ret ?_
            refine then_ret ?_
            exact body_1 rfl (ev_tv rfl rfl) H
        · replace H := H.2 hb30
          have hq31 : Value.bool (decide ((v14 : Int) < ((x11l : Nat) : Int))) = Value.bool false := congrArg Value.bool (decide_eq_false hb30)
          refine cond_f (ev_tv rfl hq31) ?_
          refine c_exit ?_
          refine then_exit ?_
          refine then_exit ?_
          refine block_hit ?_
          refine then_norm ?_
          refine hK19 _ _ ?_
          clear hK19
          refine c_seq ?_
          intro K44 hK44
          refine c_region ?_
          refine L_val (v := .pointer x2) (y_move (ev_tv rfl ((hag23 3 rfl).trans ((hag16 3 rfl).trans rfl)))) ?_
          refine L_call (y_call Try.call13 (map_ev1 (ev_tv rfl rfl)) ev_f) (Calls.mono H ?_)
          clear H
          rintro _ w24 ⟨x23, x23l, x23c, rfl, H⟩
          refine ⟨_, rfl, ?_⟩
          refine L_val (v := .int .i64 ((x23l : Nat) : Int)) (y_len Try.underlying34 rfl (map_ev1 (ev_tv rfl rfl))) ?_
          refine L_val (v := .map (some b8)) (y_move (ev_tv rfl ((hag23 4 rfl).trans ((hag16 4 rfl).trans rfl)))) ?_
          obtain ⟨n26, hc45, H⟩ := H
          refine L_val (v := .int .i64 n26) (y_bi_len (map_ev1 (ev_tv rfl rfl)) hc45) ?_
          refine L_val (v := .bool (decide ((((x23l : Nat) : Int) : Int) = n26))) (y_ieq (ev_tv rfl rfl) (ev_tv rfl rfl)) ?_
          refine L_val (v := .bool (decide ((((x23l : Nat) : Int) : Int) = n26))) (y_assign (ev_tv rfl rfl)) ?_
          refine l_nil ?_
          refine then_norm ?_
          refine hK44 _ _ ?_
          clear hK44
          refine c_ret ?_
          exact body_1 rfl (ev_tv rfl rfl) H
  · replace H := H.2 hb5
    have hq6 : Value.bool (x5) = Value.bool false := congrArg Value.bool hb5
    refine L_val (v := .bool true) (y_not_f (ev_tv rfl hq6)) ?_
    refine L_val (v := .bool true) (y_move (ev_tv rfl rfl)) ?_
    refine G_not (b' := true) (dj := 16) rfl rfl rfl rfl ?_
    refine G_not (b' := true) (dj := 16) rfl rfl rfl rfl ?_
    refine L_val (v := .bool true) (y_pick_t (ev_tv rfl rfl) ev_c) ?_
    refine l_nil ?_
    refine then_norm ?_
    refine hK4 _ _ ?_
    clear hK4
    refine cond_t (ev_tv rfl rfl) ?_
    refine c_seq ?_
    intro K163 hK163
    refine c_region ?_
    refine L_val (v := .bool false) (y_assign ev_c) ?_
    refine l_nil ?_
    refine then_norm ?_
    refine hK163 _ _ ?_
    clear hK163
    refine c_ret ?_
    refine then_ret ?_
    exact body_1 rfl (ev_tv rfl rfl) H

/-- parapet/waitq.New -/
def Vc5  (w : World) (R : Ending → World → Prop) : Prop :=
  (∀ (b1 : Nat) (w2 : World), b1 = World.heapSize w → w2 = World.alloc w (.map #[] 0) → (∀ (b3 : Nat) (w4 : World), b3 = World.heapSize w2 → w4 = World.alloc w2 (.map #[] 0) → (∀ (b5 : Nat) (w6 : World), b5 = World.heapSize w4 → w6 = World.alloc w4 (.cells #[.map (some b1), .map (some b3)] 52) → R (.returned (.pointer (some ⟨b5, 0, none⟩))) w6)))

theorem vc5  {w : World} {R : Ending → World → Prop} (H : Vc5  w R) : Calls Try.prog 5 #[] w R := by
  unfold Vc5 at H
  refine calls_start [] Try.func5 rfl Try.ntmps5 rfl ?_
  refine c_seq ?_
  intro K1 hK1
  refine c_region ?_
  refine L_val (v := .pointer none) (y_assign ev_c) ?_
  refine l_nil ?_
  refine then_norm ?_
  refine hK1 _ _ ?_
  clear hK1
  refine c_seq ?_
  intro K2 hK2
  refine c_region ?_
  obtain ⟨b1, hb3⟩ : ∃ b1 : Nat, b1 = World.heapSize w := ⟨_, rfl⟩
  obtain ⟨w2, hw4⟩ : ∃ w2 : World, w2 = World.alloc w (.map #[] 0) := ⟨_, rfl⟩
  replace H := H b1 w2 hb3 hw4
  refine L_val (v := .map (some b1)) (y_makeMap hb3 hw4) ?_
  obtain ⟨b3, hb5⟩ : ∃ b3 : Nat, b3 = World.heapSize w2 := ⟨_, rfl⟩
  obtain ⟨w4, hw6⟩ : ∃ w4 : World, w4 = World.alloc w2 (.map #[] 0) := ⟨_, rfl⟩
  replace H := H b3 w4 hb5 hw6
  refine L_val (v := .map (some b3)) (y_makeMap hb5 hw6) ?_
  refine L_val (v := .agg #[.map (some b1), .map (some b3)]) (y_build (parts_ev2 (ev_tv rfl rfl) (ev_tv rfl rfl)) (by kernel_rfl)) ?_
  obtain ⟨b5, hb7⟩ : ∃ b5 : Nat, b5 = World.heapSize w4 := ⟨_, rfl⟩
  obtain ⟨w6, hw8⟩ : ∃ w6 : World, w6 = World.alloc w4 (.cells #[.map (some b1), .map (some b3)] 52) := ⟨_, rfl⟩
  replace H := H b5 w6 hb7 hw8
  refine L_val (v := .pointer (some ⟨b5, 0, none⟩)) (y_box (ev_tv rfl rfl) rfl hb7 hw8) ?_
  refine L_val (v := .pointer (some ⟨b5, 0, none⟩)) (y_assign (ev_tv rfl rfl)) ?_
  refine l_nil ?_
  refine then_norm ?_
  refine hK2 _ _ ?_
  clear hK2
  refine c_ret ?_
  exact body_1 rfl (ev_tv rfl rfl) H

/-- parapet/parapetlaw12.awake -/
def Vc6  (w : World) (R : Ending → World → Prop) : Prop :=
  (Calls Try.prog 5 #[] w fun e w2 => ∃ x1 : Option Addr, e = .returned (.pointer x1) ∧ (∀ (b4 : Nat) (w5 : World), b4 = World.heapSize w2 → w5 = World.alloc w2 (.cells #[.int .i64 0, .int .i64 0, .int .i64 0] 29) → (∀ (b6 : Nat) (w7 : World), b6 = World.heapSize w5 → w7 = World.alloc w5 (.cells #[.int .i64 0, .int .i64 0, .int .i64 0] 29) → ((∀ j, j < 3 → (World.cell? w7 (Addr.add ⟨b4, 0, none⟩ j)).isSome = true ∧ World.frozen? w7 (Addr.add ⟨b4, 0, none⟩ j) = false) ∧ ∀ w8 : World, w8 = putCells w7 ⟨b4, 0, none⟩ [.int .i64 1, .int .i64 0, .int .i64 0] 0 → ((∀ j, j < 3 → (World.cell? w8 (Addr.add ⟨b6, 0, none⟩ j)).isSome = true ∧ World.frozen? w8 (Addr.add ⟨b6, 0, none⟩ j) = false) ∧ ∀ w9 : World, w9 = putCells w8 ⟨b6, 0, none⟩ [.int .i64 2, .int .i64 0, .int .i64 0] 0 → (((x1 = none) → R (.returned (.bool false)) w9) ∧ ((x1 ≠ none) → (∃ x10 : Int, ∃ x11 : Int, ∃ x12 : Int, CellsAt w9 ⟨b4, 0, none⟩ [.int .i64 x10, .int .i64 x11, .int .i64 x12] ∧ (∀ (b13 : Nat) (w14 : World), b13 = World.heapSize w9 → w14 = World.alloc w9 (.cells #[.int .i64 x10, .int .i64 x11, .int .i64 x12] 29) → (Calls Try.prog 7 #[.pointer x1, .int .i64 1, .slice (some ⟨b13, 0, none⟩) 1 1] w14 fun e w16 => ∃ x15 : Int, e = .returned (.int .i64 x15) ∧ (((¬ ((x15 : Int) = 0)) → R (.returned (.bool false)) w16) ∧ (((x15 : Int) = 0) → (∃ x18 : Int, ∃ x19 : Int, ∃ x20 : Int, CellsAt w16 ⟨b4, 0, none⟩ [.int .i64 x18, .int .i64 x19, .int .i64 x20] ∧ (∃ x21 : Int, ∃ x22 : Int, ∃ x23 : Int, CellsAt w16 ⟨b6, 0, none⟩ [.int .i64 x21, .int .i64 x22, .int .i64 x23] ∧ (∀ (b24 : Nat) (w25 : World), b24 = World.heapSize w16 → w25 = World.alloc w16 (.cells #[.int .i64 x18, .int .i64 x19, .int .i64 x20, .int .i64 x21, .int .i64 x22, .int .i64 x23] 29) → (Calls Try.prog 7 #[.pointer x1, .int .i64 2, .slice (some ⟨b24, 0, none⟩) 2 2] w25 fun e w27 => ∃ x26 : Int, e = .returned (.int .i64 x26) ∧ (((¬ ((x26 : Int) = 0)) → R (.returned (.bool false)) w27) ∧ (((x26 : Int) = 0) → (∃ x29 : Int, ∃ x30 : Int, ∃ x31 : Int, CellsAt w27 ⟨b4, 0, none⟩ [.int .i64 x29, .int .i64 x30, .int .i64 x31] ∧ (∀ (b32 : Nat) (w33 : World), b32 = World.heapSize w27 → w33 = World.alloc w27 (.cells #[.int .i64 x29, .int .i64 x30, .int .i64 x31] 29) → (Calls Try.prog 7 #[.pointer x1, .int .i64 3, .slice (some ⟨b32, 0, none⟩) 1 1] w33 fun e w35 => ∃ x34 : Int, e = .returned (.int .i64 x34) ∧ (((¬ ((x34 : Int) = 0)) → R (.returned (.bool false)) w35) ∧ (((x34 : Int) = 0) → (∃ x37 : Int, ∃ x38 : Int, ∃ x39 : Int, CellsAt w35 ⟨b6, 0, none⟩ [.int .i64 x37, .int .i64 x38, .int .i64 x39] ∧ (Calls Try.prog 9 #[.pointer x1, .agg #[.int .i64 x37, .int .i64 x38, .int .i64 x39], .int .i64 5] w35 fun e w41 => ∃ x40 : Option Addr, ∃ x40l : Nat, ∃ x40c : Nat, e = .returned (.slice x40 x40l x40c) ∧ (∀ (b43 : Nat) (w44 : World), b43 = World.heapSize w41 → w44 = World.alloc w41 (.cells #[.int .i64 2] 3) → (Calls Try.prog 16 #[.slice x40 x40l x40c, .slice (some ⟨b43, 0, none⟩) 1 1] w44 fun e w46 => ∃ x45 : Bool, e = .returned (.bool x45) ∧ (((x45 = true) → (∃ x48 : Int, ∃ x49 : Int, ∃ x50 : Int, CellsAt w46 ⟨b4, 0, none⟩ [.int .i64 x48, .int .i64 x49, .int .i64 x50] ∧ (Calls Try.prog 9 #[.pointer x1, .agg #[.int .i64 x48, .int .i64 x49, .int .i64 x50], .int .i64 1] w46 fun e w52 => ∃ x51 : Option Addr, ∃ x51l : Nat, ∃ x51c : Nat, e = .returned (.slice x51 x51l x51c) ∧ (∀ (b54 : Nat) (w55 : World), b54 = World.heapSize w52 → w55 = World.alloc w52 (.cells #[.int .i64 1] 3) → (Calls Try.prog 16 #[.slice x51 x51l x51c, .slice (some ⟨b54, 0, none⟩) 1 1] w55 fun e w57 => ∃ x56 : Bool, e = .returned (.bool x56) ∧ (((x56 = true) → (∃ x59 : Int, ∃ x60 : Int, ∃ x61 : Int, CellsAt w57 ⟨b4, 0, none⟩ [.int .i64 x59, .int .i64 x60, .int .i64 x61] ∧ (∃ x62 : Int, ∃ x63 : Int, ∃ x64 : Int, CellsAt w57 ⟨b6, 0, none⟩ [.int .i64 x62, .int .i64 x63, .int .i64 x64] ∧ (Calls Try.prog 11 #[.pointer x1, .agg #[.int .i64 x59, .int .i64 x60, .int .i64 x61], .agg #[.int .i64 x62, .int .i64 x63, .int .i64 x64], .int .i64 9] w57 fun e w66 => ∃ x65 : Int, e = .returned (.int .i64 x65) ∧ ((((x65 : Int) = 1) → (∃ x68 : Int, ∃ x69 : Int, ∃ x70 : Int, CellsAt w66 ⟨b6, 0, none⟩ [.int .i64 x68, .int .i64 x69, .int .i64 x70] ∧ (Calls Try.prog 9 #[.pointer x1, .agg #[.int .i64 x68, .int .i64 x69, .int .i64 x70], .int .i64 1] w66 fun e w72 => ∃ x71 : Option Addr, ∃ x71l : Nat, ∃ x71c : Nat, e = .returned (.slice x71 x71l x71c) ∧ (∀ (b74 : Nat) (w75 : World), b74 = World.heapSize w72 → w75 = World.alloc w72 (.cells #[.int .i64 3] 3) → (Calls Try.prog 16 #[.slice x71 x71l x71c, .slice (some ⟨b74, 0, none⟩) 1 1] w75 fun e w77 => ∃ x76 : Bool, e = .returned (.bool x76) ∧ (((x76 = true) → (Calls Try.prog 12 #[.pointer x1] w77 fun e w80 => ∃ x79 : Int, e = .returned (.int .i64 x79) ∧ R (.returned (.bool (decide ((x79 : Int) = 0)))) w80)) ∧ ((x76 = false) → R (.returned (.bool false)) w77))))))) ∧ ((¬ ((x65 : Int) = 1)) → R (.returned (.bool false)) w66)))))) ∧ ((x56 = false) → R (.returned (.bool false)) w57))))))) ∧ ((x45 = false) → R (.returned (.bool false)) w46)))))))))))))))))))))))))))))

theorem vc6  {w : World} {R : Ending → World → Prop} (H : Vc6  w R) : Calls Try.prog 6 #[] w R := by
  unfold Vc6 at H
  refine calls_start [] Try.func6 rfl Try.ntmps6 rfl ?_
  refine c_seq ?_
  intro K1 hK1
  refine c_region ?_
  refine L_val (v := .bool false) (y_assign ev_c) ?_
  refine l_nil ?_
  refine then_norm ?_
  refine hK1 _ _ ?_
  clear hK1
  refine c_seq ?_
  intro K2 hK2
  refine c_region ?_
  refine L_call (y_call Try.call5 map_ev0 ev_f) (Calls.mono H ?_)
  clear H
  rintro _ w2 ⟨x1, rfl, H⟩
  refine ⟨_, rfl, ?_⟩
  refine L_val (v := .pointer x1) (y_assign (ev_tv rfl rfl)) ?_
  refine l_nil ?_
  refine then_norm ?_
  refine hK2 _ _ ?_
  clear hK2
  refine c_seq ?_
  intro K3 hK3
  refine c_region ?_
  refine L_val (v := .agg #[.int .i64 1, .int .i64 0, .int .i64 0]) (y_build (parts_ev1 ev_c) (by kernel_rfl)) ?_
  refine L_val (v := .agg #[.int .i64 2, .int .i64 0, .int .i64 0]) (y_build (parts_ev1 ev_c) (by kernel_rfl)) ?_
  obtain ⟨b4, hb4⟩ : ∃ b4 : Nat, b4 = World.heapSize w2 := ⟨_, rfl⟩
  obtain ⟨w5, hw5⟩ : ∃ w5 : World, w5 = World.alloc w2 (.cells #[.int .i64 0, .int .i64 0, .int .i64 0] 29) := ⟨_, rfl⟩
  replace H := H b4 w5 hb4 hw5
  refine L_val (v := .pointer (some ⟨b4, 0, none⟩)) (y_alloc Try.type29 rfl rfl hb4 hw5) ?_
  obtain ⟨b6, hb6⟩ : ∃ b6 : Nat, b6 = World.heapSize w5 := ⟨_, rfl⟩
  obtain ⟨w7, hw7⟩ : ∃ w7 : World, w7 = World.alloc w5 (.cells #[.int .i64 0, .int .i64 0, .int .i64 0] 29) := ⟨_, rfl⟩
  replace H := H b6 w7 hb6 hw7
  refine L_val (v := .pointer (some ⟨b6, 0, none⟩)) (y_alloc Try.type29 rfl rfl hb6 hw7) ?_
  obtain ⟨hc8, H⟩ := H
  obtain ⟨w8, hw10⟩ : ∃ w8 : World, w8 = putCells w7 ⟨b4, 0, none⟩ [.int .i64 1, .int .i64 0, .int .i64 0] 0 := ⟨_, rfl⟩
  replace H := H w8 hw10
  refine L_skip (y_storeAgg Try.type29 rfl (by intro v hv; simp only [List.mem_cons, List.not_mem_nil, or_false] at hv; rcases hv with rfl | rfl | rfl <;> rfl) (ev_tv rfl rfl) (ev_tv rfl rfl) hc8 hw10) ?_
  obtain ⟨hc11, H⟩ := H
  obtain ⟨w9, hw13⟩ : ∃ w9 : World, w9 = putCells w8 ⟨b6, 0, none⟩ [.int .i64 2, .int .i64 0, .int .i64 0] 0 := ⟨_, rfl⟩
  replace H := H w9 hw13
  refine L_skip (y_storeAgg Try.type29 rfl (by intro v hv; simp only [List.mem_cons, List.not_mem_nil, or_false] at hv; rcases hv with rfl | rfl | rfl <;> rfl) (ev_tv rfl rfl) (ev_tv rfl rfl) hc11 hw13) ?_
  refine l_nil ?_
  refine then_norm ?_
  refine hK3 _ _ ?_
  clear hK3
  refine c_seq ?_
  intro K14 hK14
  refine c_seq ?_
  intro K15 hK15
  refine c_region ?_
  refine L_val (v := .pointer x1) (y_move (ev_tv rfl rfl)) ?_
  refine L_val (v := .bool (x1.isNone)) (y_peq Try.underlying23 (ev_tv rfl rfl) ev_c) ?_
  refine L_val (v := .bool (x1.isNone)) (y_move (ev_tv rfl rfl)) ?_
  rcases (Classical.em (x1 = none)) with hb16 | hb16
  · replace H := H.1 hb16
    have hq17 : Value.bool (x1.isNone) = Value.bool true := congrArg Value.bool (isn_t hb16)
    refine G_not (b' := true) (dj := 9) rfl rfl hq17 rfl ?_
    refine G_not (b' := true) (dj := 9) rfl rfl hq17 rfl ?_
    refine G_not (b' := true) (dj := 9) rfl rfl hq17 rfl ?_
    refine G_not (b' := true) (dj := 9) rfl rfl hq17 rfl ?_
    refine G_not (b' := true) (dj := 9) rfl rfl hq17 rfl ?_
    refine L_val (v := .bool true) (y_pick_t (ev_tv rfl hq17) ev_c) ?_
    refine L_val (v := .bool true) (y_move (ev_tv rfl rfl)) ?_
    refine G_not (b' := true) (dj := 16) rfl rfl rfl rfl ?_
    refine G_not (b' := true) (dj := 16) rfl rfl rfl rfl ?_
    refine G_not (b' := true) (dj := 16) rfl rfl rfl rfl ?_
    refine G_not (b' := true) (dj := 16) rfl rfl rfl rfl ?_
    refine G_not (b' := true) (dj := 16) rfl rfl rfl rfl ?_
    refine G_not (b' := true) (dj := 16) rfl rfl rfl rfl ?_
    refine L_val (v := .bool true) (y_pick_t (ev_tv rfl rfl) ev_c) ?_
    refine L_val (v := .bool true) (y_move (ev_tv rfl rfl)) ?_
    refine G_not (b' := true) (dj := 24) rfl rfl rfl rfl ?_
    refine G_not (b' := true) (dj := 24) rfl rfl rfl rfl ?_
    refine G_not (b' := true) (dj := 24) rfl rfl rfl rfl ?_
    refine G_not (b' := true) (dj := 24) rfl rfl rfl rfl ?_
    refine G_not (b' := true) (dj := 24) rfl rfl rfl rfl ?_
    refine L_val (v := .bool true) (y_pick_t (ev_tv rfl rfl) ev_c) ?_
    refine l_nil ?_
    refine then_norm ?_
    refine hK15 _ _ ?_
    clear hK15
    refine cond_t (ev_tv rfl rfl) ?_
    refine c_seq ?_
    intro K18 hK18
    refine c_region ?_
    refine L_val (v := .bool false) (y_assign ev_c) ?_
    refine l_nil ?_
    refine then_norm ?_
    refine hK18 _ _ ?_
    clear hK18
    refine c_ret ?_
    refine then_ret ?_
    exact body_1 rfl (ev_tv rfl rfl) H
  · replace H := H.2 hb16
    have hq17 : Value.bool (x1.isNone) = Value.bool false := congrArg Value.bool (isn_f hb16)
    refine G_val (dj := 9) rfl rfl hq17 (v := .pointer x1) (y_move (ev_tv rfl rfl)) ?_
    obtain ⟨x10, x11, x12, hc19, H⟩ := H
    refine G_val (dj := 9) rfl rfl hq17 (v := .agg #[.int .i64 x10, .int .i64 x11, .int .i64 x12]) (y_loadAgg Try.underlying29 rfl Try.type29 rfl (ev_tv rfl rfl) hc19) ?_
    obtain ⟨b13, hb20⟩ : ∃ b13 : Nat, b13 = World.heapSize w9 := ⟨_, rfl⟩
    obtain ⟨w14, hw21⟩ : ∃ w14 : World, w14 = World.alloc w9 (.cells #[.int .i64 x10, .int .i64 x11, .int .i64 x12] 29) := ⟨_, rfl⟩
    replace H := H b13 w14 hb20 hw21
    refine G_val (dj := 9) rfl rfl hq17 (v := .slice (some ⟨b13, 0, none⟩) 1 1) (y_buildSlice (parts_ev1 (ev_tv rfl rfl)) hb20 hw21 (by kernel_rfl)) ?_
    refine G_call (dj := 9) rfl rfl hq17 (y_call Try.call7 (map_ev3 (ev_tv rfl rfl) ev_c (ev_tv rfl rfl)) ev_f) (Calls.mono H ?_)
    clear H
    rintro _ w16 ⟨x15, rfl, H⟩
    refine ⟨_, rfl, ?_⟩
    refine G_val (dj := 9) rfl rfl hq17 (v := .bool (!decide ((x15 : Int) = 0))) (y_ine (ev_tv rfl rfl) ev_c) ?_
    refine L_val (v := .bool (!decide ((x15 : Int) = 0))) (y_pick_f (ev_tv rfl hq17) (ev_tv rfl rfl)) ?_
    refine L_val (v := .bool (!decide ((x15 : Int) = 0))) (y_move (ev_tv rfl rfl)) ?_
    rcases (Decidable.em ((x15 : Int) = 0)).symm with hb22 | hb22
    · replace H := H.1 hb22
      have hq23 : Value.bool (!decide ((x15 : Int) = 0)) = Value.bool true := congrArg Value.bool (ndec_t hb22)
      refine G_not (b' := true) (dj := 16) rfl rfl hq23 rfl ?_
      refine G_not (b' := true) (dj := 16) rfl rfl hq23 rfl ?_
      refine G_not (b' := true) (dj := 16) rfl rfl hq23 rfl ?_
      refine G_not (b' := true) (dj := 16) rfl rfl hq23 rfl ?_
      refine G_not (b' := true) (dj := 16) rfl rfl hq23 rfl ?_
      refine G_not (b' := true) (dj := 16) rfl rfl hq23 rfl ?_
      refine L_val (v := .bool true) (y_pick_t (ev_tv rfl hq23) ev_c) ?_
      refine L_val (v := .bool true) (y_move (ev_tv rfl rfl)) ?_
      refine G_not (b' := true) (dj := 24) rfl rfl rfl rfl ?_
      refine G_not (b' := true) (dj := 24) rfl rfl rfl rfl ?_
      refine G_not (b' := true) (dj := 24) rfl rfl rfl rfl ?_
      refine G_not (b' := true) (dj := 24) rfl rfl rfl rfl ?_
      refine G_not (b' := true) (dj := 24) rfl rfl rfl rfl ?_
      refine L_val (v := .bool true) (y_pick_t (ev_tv rfl rfl) ev_c) ?_
      refine l_nil ?_
      refine then_norm ?_
      refine hK15 _ _ ?_
      clear hK15
      refine cond_t (ev_tv rfl rfl) ?_
      refine c_seq ?_
      intro K24 hK24
      refine c_region ?_
      refine L_val (v := .bool false) (y_assign ev_c) ?_
      refine l_nil ?_
      refine then_norm ?_
      refine hK24 _ _ ?_
      clear hK24
      refine c_ret ?_
      refine then_ret ?_
      exact body_1 rfl (ev_tv rfl rfl) H
    · replace H := H.2 hb22
      have hq23 : Value.bool (!decide ((x15 : Int) = 0)) = Value.bool false := congrArg Value.bool (ndec_f hb22)
      refine G_val (dj := 16) rfl rfl hq23 (v := .pointer x1) (y_move (ev_tv rfl rfl)) ?_
      obtain ⟨x18, x19, x20, hc25, H⟩ := H
      refine G_val (dj := 16) rfl rfl hq23 (v := .agg #[.int .i64 x18, .int .i64 x19, .int .i64 x20]) (y_loadAgg Try.underlying29 rfl Try.type29 rfl (ev_tv rfl rfl) hc25) ?_
      obtain ⟨x21, x22, x23, hc26, H⟩ := H
      refine G_val (dj := 16) rfl rfl hq23 (v := .agg #[.int .i64 x21, .int .i64 x22, .int .i64 x23]) (y_loadAgg Try.underlying29 rfl Try.type29 rfl (ev_tv rfl rfl) hc26) ?_
      obtain ⟨b24, hb27⟩ : ∃ b24 : Nat, b24 = World.heapSize w16 := ⟨_, rfl⟩
      obtain ⟨w25, hw28⟩ : ∃ w25 : World, w25 = World.alloc w16 (.cells #[.int .i64 x18, .int .i64 x19, .int .i64 x20, .int .i64 x21, .int .i64 x22, .int .i64 x23] 29) := ⟨_, rfl⟩
      replace H := H b24 w25 hb27 hw28
      refine G_val (dj := 16) rfl rfl hq23 (v := .slice (some ⟨b24, 0, none⟩) 2 2) (y_buildSlice (parts_ev2 (ev_tv rfl rfl) (ev_tv rfl rfl)) hb27 hw28 (by kernel_rfl)) ?_
      refine G_call (dj := 16) rfl rfl hq23 (y_call Try.call7 (map_ev3 (ev_tv rfl rfl) ev_c (ev_tv rfl rfl)) ev_f) (Calls.mono H ?_)
      clear H
      rintro _ w27 ⟨x26, rfl, H⟩
      refine ⟨_, rfl, ?_⟩
      refine G_val (dj := 16) rfl rfl hq23 (v := .bool (!decide ((x26 : Int) = 0))) (y_ine (ev_tv rfl rfl) ev_c) ?_
      refine L_val (v := .bool (!decide ((x26 : Int) = 0))) (y_pick_f (ev_tv rfl hq23) (ev_tv rfl rfl)) ?_
      refine L_val (v := .bool (!decide ((x26 : Int) = 0))) (y_move (ev_tv rfl rfl)) ?_
      rcases (Decidable.em ((x26 : Int) = 0)).symm with hb29 | hb29
      · replace H := H.1 hb29
        have hq30 : Value.bool (!decide ((x26 : Int) = 0)) = Value.bool true := congrArg Value.bool (ndec_t hb29)
        refine G_not (b' := true) (dj := 24) rfl rfl hq30 rfl ?_
        refine G_not (b' := true) (dj := 24) rfl rfl hq30 rfl ?_
        refine G_not (b' := true) (dj := 24) rfl rfl hq30 rfl ?_
        refine G_not (b' := true) (dj := 24) rfl rfl hq30 rfl ?_
        refine G_not (b' := true) (dj := 24) rfl rfl hq30 rfl ?_
        refine L_val (v := .bool true) (y_pick_t (ev_tv rfl hq30) ev_c) ?_
        refine l_nil ?_
        refine then_norm ?_
        refine hK15 _ _ ?_
        clear hK15
        refine cond_t (ev_tv rfl rfl) ?_
        refine c_seq ?_
        intro K31 hK31
        refine c_region ?_
        refine L_val (v := .bool false) (y_assign ev_c) ?_
        refine l_nil ?_
        refine then_norm ?_
        refine hK31 _ _ ?_
        clear hK31
        refine c_ret ?_
        refine then_ret ?_
        exact body_1 rfl (ev_tv rfl rfl) H
      · replace H := H.2 hb29
        have hq30 : Value.bool (!decide ((x26 : Int) = 0)) = Value.bool false := congrArg Value.bool (ndec_f hb29)
        refine G_val (dj := 24) rfl rfl hq30 (v := .pointer x1) (y_move (ev_tv rfl rfl)) ?_
        obtain ⟨x29, x30, x31, hc32, H⟩ := H
        refine G_val (dj := 24) rfl rfl hq30 (v := .agg #[.int .i64 x29, .int .i64 x30, .int .i64 x31]) (y_loadAgg Try.underlying29 rfl Try.type29 rfl (ev_tv rfl rfl) hc32) ?_
        obtain ⟨b32, hb33⟩ : ∃ b32 : Nat, b32 = World.heapSize w27 := ⟨_, rfl⟩
        obtain ⟨w33, hw34⟩ : ∃ w33 : World, w33 = World.alloc w27 (.cells #[.int .i64 x29, .int .i64 x30, .int .i64 x31] 29) := ⟨_, rfl⟩
        replace H := H b32 w33 hb33 hw34
        refine G_val (dj := 24) rfl rfl hq30 (v := .slice (some ⟨b32, 0, none⟩) 1 1) (y_buildSlice (parts_ev1 (ev_tv rfl rfl)) hb33 hw34 (by kernel_rfl)) ?_
        refine G_call (dj := 24) rfl rfl hq30 (y_call Try.call7 (map_ev3 (ev_tv rfl rfl) ev_c (ev_tv rfl rfl)) ev_f) (Calls.mono H ?_)
        clear H
        rintro _ w35 ⟨x34, rfl, H⟩
        refine ⟨_, rfl, ?_⟩
        refine G_val (dj := 24) rfl rfl hq30 (v := .bool (!decide ((x34 : Int) = 0))) (y_ine (ev_tv rfl rfl) ev_c) ?_
        refine L_val (v := .bool (!decide ((x34 : Int) = 0))) (y_pick_f (ev_tv rfl hq30) (ev_tv rfl rfl)) ?_
        refine l_nil ?_
        refine then_norm ?_
        refine hK15 _ _ ?_
        clear hK15
        rcases (Decidable.em ((x34 : Int) = 0)).symm with hb35 | hb35
        · replace H := H.1 hb35
          have hq36 : Value.bool (!decide ((x34 : Int) = 0)) = Value.bool true := congrArg Value.bool (ndec_t hb35)
          refine cond_t (ev_tv rfl hq36) ?_
          refine c_seq ?_
          intro K37 hK37
          refine c_region ?_
          refine L_val (v := .bool false) (y_assign ev_c) ?_
          refine l_nil ?_
          refine then_norm ?_
          refine hK37 _ _ ?_
          clear hK37
          refine c_ret ?_
          refine then_ret ?_
          exact body_1 rfl (ev_tv rfl rfl) H
        · replace H := H.2 hb35
          have hq36 : Value.bool (!decide ((x34 : Int) = 0)) = Value.bool false := congrArg Value.bool (ndec_f hb35)
          refine cond_f (ev_tv rfl hq36) ?_
          refine c_skip ?_
          refine then_norm ?_
          refine hK14 _ _ ?_
          clear hK14
          refine c_seq ?_
          intro K38 hK38
          refine c_region ?_
          refine L_val (v := .pointer x1) (y_move (ev_tv rfl rfl)) ?_
          obtain ⟨x37, x38, x39, hc39, H⟩ := H
          refine L_val (v := .agg #[.int .i64 x37, .int .i64 x38, .int .i64 x39]) (y_loadAgg Try.underlying29 rfl Try.type29 rfl (ev_tv rfl rfl) hc39) ?_
          refine L_call (y_call Try.call9 (map_ev3 (ev_tv rfl rfl) (ev_tv rfl rfl) ev_c) ev_f) (Calls.mono H ?_)
          clear H
          rintro _ w41 ⟨x40, x40l, x40c, rfl, H⟩
          refine ⟨_, rfl, ?_⟩
          obtain ⟨b43, hb40⟩ : ∃ b43 : Nat, b43 = World.heapSize w41 := ⟨_, rfl⟩
          obtain ⟨w44, hw41⟩ : ∃ w44 : World, w44 = World.alloc w41 (.cells #[.int .i64 2] 3) := ⟨_, rfl⟩
          replace H := H b43 w44 hb40 hw41
          refine L_val (v := .slice (some ⟨b43, 0, none⟩) 1 1) (y_buildSlice (parts_ev1 ev_c) hb40 hw41 (by kernel_rfl)) ?_
          refine L_call (y_call Try.call16 (map_ev2 (ev_tv rfl rfl) (ev_tv rfl rfl)) ev_f) (Calls.mono H ?_)
          clear H
          rintro _ w46 ⟨x45, rfl, H⟩
          refine ⟨_, rfl, ?_⟩
          refine L_val (v := .bool x45) (y_move (ev_tv rfl rfl)) ?_
          rcases Bool.eq_false_or_eq_true x45 with hb42 | hb42
          · replace H := H.1 hb42
            have hq43 : Value.bool (x45) = Value.bool true := congrArg Value.bool hb42
            refine G_val (dj := 36) rfl rfl hq43 (v := .pointer x1) (y_move (ev_tv rfl rfl)) ?_
            obtain ⟨x48, x49, x50, hc44, H⟩ := H
            refine G_val (dj := 36) rfl rfl hq43 (v := .agg #[.int .i64 x48, .int .i64 x49, .int .i64 x50]) (y_loadAgg Try.underlying29 rfl Try.type29 rfl (ev_tv rfl rfl) hc44) ?_
            refine G_call (dj := 36) rfl rfl hq43 (y_call Try.call9 (map_ev3 (ev_tv rfl rfl) (ev_tv rfl rfl) ev_c) ev_f) (Calls.mono H ?_)
            clear H
            rintro _ w52 ⟨x51, x51l, x51c, rfl, H⟩
            refine ⟨_, rfl, ?_⟩
            obtain ⟨b54, hb45⟩ : ∃ b54 : Nat, b54 = World.heapSize w52 := ⟨_, rfl⟩
            obtain ⟨w55, hw46⟩ : ∃ w55 : World, w55 = World.alloc w52 (.cells #[.int .i64 1] 3) := ⟨_, rfl⟩
            replace H := H b54 w55 hb45 hw46
            refine G_val (dj := 36) rfl rfl hq43 (v := .slice (some ⟨b54, 0, none⟩) 1 1) (y_buildSlice (parts_ev1 ev_c) hb45 hw46 (by kernel_rfl)) ?_
            refine G_call (dj := 36) rfl rfl hq43 (y_call Try.call16 (map_ev2 (ev_tv rfl rfl) (ev_tv rfl rfl)) ev_f) (Calls.mono H ?_)
            clear H
            rintro _ w57 ⟨x56, rfl, H⟩
            refine ⟨_, rfl, ?_⟩
            refine L_val (v := .bool x56) (y_pick_t (ev_tv rfl hq43) (ev_tv rfl rfl)) ?_
            refine L_val (v := .bool x56) (y_move (ev_tv rfl rfl)) ?_
            rcases Bool.eq_false_or_eq_true x56 with hb47 | hb47
            · replace H := H.1 hb47
              have hq48 : Value.bool (x56) = Value.bool true := congrArg Value.bool hb47
              refine G_val (dj := 43) rfl rfl hq48 (v := .pointer x1) (y_move (ev_tv rfl rfl)) ?_
              obtain ⟨x59, x60, x61, hc49, H⟩ := H
              refine G_val (dj := 43) rfl rfl hq48 (v := .agg #[.int .i64 x59, .int .i64 x60, .int .i64 x61]) (y_loadAgg Try.underlying29 rfl Try.type29 rfl (ev_tv rfl rfl) hc49) ?_
              obtain ⟨x62, x63, x64, hc50, H⟩ := H
              refine G_val (dj := 43) rfl rfl hq48 (v := .agg #[.int .i64 x62, .int .i64 x63, .int .i64 x64]) (y_loadAgg Try.underlying29 rfl Try.type29 rfl (ev_tv rfl rfl) hc50) ?_
              refine G_call (dj := 43) rfl rfl hq48 (y_call Try.call11 (map_ev4 (ev_tv rfl rfl) (ev_tv rfl rfl) (ev_tv rfl rfl) ev_c) ev_f) (Calls.mono H ?_)
              clear H
              rintro _ w66 ⟨x65, rfl, H⟩
              refine ⟨_, rfl, ?_⟩
              refine G_val (dj := 43) rfl rfl hq48 (v := .bool (decide ((x65 : Int) = 1))) (y_ieq (ev_tv rfl rfl) ev_c) ?_
              refine L_val (v := .bool (decide ((x65 : Int) = 1))) (y_pick_t (ev_tv rfl hq48) (ev_tv rfl rfl)) ?_
              refine L_val (v := .bool (decide ((x65 : Int) = 1))) (y_move (ev_tv rfl rfl)) ?_
              rcases (Decidable.em ((x65 : Int) = 1)) with hb51 | hb51
              · replace H := H.1 hb51
                have hq52 : Value.bool (decide ((x65 : Int) = 1)) = Value.bool true := congrArg Value.bool (decide_eq_true hb51)
                refine G_val (dj := 50) rfl rfl hq52 (v := .pointer x1) (y_move (ev_tv rfl rfl)) ?_
                obtain ⟨x68, x69, x70, hc53, H⟩ := H
                refine G_val (dj := 50) rfl rfl hq52 (v := .agg #[.int .i64 x68, .int .i64 x69, .int .i64 x70]) (y_loadAgg Try.underlying29 rfl Try.type29 rfl (ev_tv rfl rfl) hc53) ?_
                refine G_call (dj := 50) rfl rfl hq52 (y_call Try.call9 (map_ev3 (ev_tv rfl rfl) (ev_tv rfl rfl) ev_c) ev_f) (Calls.mono H ?_)
                clear H
                rintro _ w72 ⟨x71, x71l, x71c, rfl, H⟩
                refine ⟨_, rfl, ?_⟩
                obtain ⟨b74, hb54⟩ : ∃ b74 : Nat, b74 = World.heapSize w72 := ⟨_, rfl⟩
                obtain ⟨w75, hw55⟩ : ∃ w75 : World, w75 = World.alloc w72 (.cells #[.int .i64 3] 3) := ⟨_, rfl⟩
                replace H := H b74 w75 hb54 hw55
                refine G_val (dj := 50) rfl rfl hq52 (v := .slice (some ⟨b74, 0, none⟩) 1 1) (y_buildSlice (parts_ev1 ev_c) hb54 hw55 (by kernel_rfl)) ?_
                refine G_call (dj := 50) rfl rfl hq52 (y_call Try.call16 (map_ev2 (ev_tv rfl rfl) (ev_tv rfl rfl)) ev_f) (Calls.mono H ?_)
                clear H
                rintro _ w77 ⟨x76, rfl, H⟩
                refine ⟨_, rfl, ?_⟩
                refine L_val (v := .bool x76) (y_pick_t (ev_tv rfl hq52) (ev_tv rfl rfl)) ?_
                refine L_val (v := .bool x76) (y_move (ev_tv rfl rfl)) ?_
                rcases Bool.eq_false_or_eq_true x76 with hb56 | hb56
                · replace H := H.1 hb56
                  have hq57 : Value.bool (x76) = Value.bool true := congrArg Value.bool hb56
                  refine G_val (dj := 57) rfl rfl hq57 (v := .pointer x1) (y_move (ev_tv rfl rfl)) ?_
                  refine G_call (dj := 57) rfl rfl hq57 (y_call Try.call12 (map_ev1 (ev_tv rfl rfl)) ev_f) (Calls.mono H ?_)
                  clear H
                  rintro _ w80 ⟨x79, rfl, H⟩
                  refine ⟨_, rfl, ?_⟩
                  refine G_val (dj := 57) rfl rfl hq57 (v := .bool (decide ((x79 : Int) = 0))) (y_ieq (ev_tv rfl rfl) ev_c) ?_
                  refine L_val (v := .bool (decide ((x79 : Int) = 0))) (y_pick_t (ev_tv rfl hq57) (ev_tv rfl rfl)) ?_
                  refine L_val (v := .bool (decide ((x79 : Int) = 0))) (y_assign (ev_tv rfl rfl)) ?_
                  refine l_nil ?_
                  refine then_norm ?_
                  refine hK38 _ _ ?_
                  clear hK38
                  refine c_ret ?_
                  exact body_1 rfl (ev_tv rfl rfl) H
                · replace H := H.2 hb56
                  have hq57 : Value.bool (x76) = Value.bool false := congrArg Value.bool hb56
                  refine G_not (b' := false) (dj := 57) rfl rfl hq57 rfl ?_
                  refine G_not (b' := false) (dj := 57) rfl rfl hq57 rfl ?_
                  refine G_not (b' := false) (dj := 57) rfl rfl hq57 rfl ?_
                  refine L_val (v := .bool false) (y_pick_f (ev_tv rfl hq57) ev_c) ?_
                  refine L_val (v := .bool false) (y_assign (ev_tv rfl rfl)) ?_
                  refine l_nil ?_
                  refine then_norm ?_
                  refine hK38 _ _ ?_
                  clear hK38
                  refine c_ret ?_
                  exact body_1 rfl (ev_tv rfl rfl) H
              · replace H := H.2 hb51
                have hq52 : Value.bool (decide ((x65 : Int) = 1)) = Value.bool false := congrArg Value.bool (decide_eq_false hb51)
                refine G_not (b' := false) (dj := 50) rfl rfl hq52 rfl ?_
                refine G_not (b' := false) (dj := 50) rfl rfl hq52 rfl ?_
                refine G_not (b' := false) (dj := 50) rfl rfl hq52 rfl ?_
                refine G_not (b' := false) (dj := 50) rfl rfl hq52 rfl ?_
                refine G_not (b' := false) (dj := 50) rfl rfl hq52 rfl ?_
                refine L_val (v := .bool false) (y_pick_f (ev_tv rfl hq52) ev_c) ?_
                refine L_val (v := .bool false) (y_move (ev_tv rfl rfl)) ?_
                refine G_not (b' := false) (dj := 57) rfl rfl rfl rfl ?_
                refine G_not (b' := false) (dj := 57) rfl rfl rfl rfl ?_
                refine G_not (b' := false) (dj := 57) rfl rfl rfl rfl ?_
                refine L_val (v := .bool false) (y_pick_f (ev_tv rfl rfl) ev_c) ?_
                refine L_val (v := .bool false) (y_assign (ev_tv rfl rfl)) ?_
                refine l_nil ?_
                refine then_norm ?_
                refine hK38 _ _ ?_
                clear hK38
                refine c_ret ?_
                exact body_1 rfl (ev_tv rfl rfl) H
            · replace H := H.2 hb47
              have hq48 : Value.bool (x56) = Value.bool false := congrArg Value.bool hb47
              refine G_not (b' := false) (dj := 43) rfl rfl hq48 rfl ?_
              refine G_not (b' := false) (dj := 43) rfl rfl hq48 rfl ?_
              refine G_not (b' := false) (dj := 43) rfl rfl hq48 rfl ?_
              refine G_not (b' := false) (dj := 43) rfl rfl hq48 rfl ?_
              refine G_not (b' := false) (dj := 43) rfl rfl hq48 rfl ?_
              refine L_val (v := .bool false) (y_pick_f (ev_tv rfl hq48) ev_c) ?_
              refine L_val (v := .bool false) (y_move (ev_tv rfl rfl)) ?_
              refine G_not (b' := false) (dj := 50) rfl rfl rfl rfl ?_
              refine G_not (b' := false) (dj := 50) rfl rfl rfl rfl ?_
              refine G_not (b' := false) (dj := 50) rfl rfl rfl rfl ?_
              refine G_not (b' := false) (dj := 50) rfl rfl rfl rfl ?_
              refine G_not (b' := false) (dj := 50) rfl rfl rfl rfl ?_
              refine L_val (v := .bool false) (y_pick_f (ev_tv rfl rfl) ev_c) ?_
              refine L_val (v := .bool false) (y_move (ev_tv rfl rfl)) ?_
              refine G_not (b' := false) (dj := 57) rfl rfl rfl rfl ?_
              refine G_not (b' := false) (dj := 57) rfl rfl rfl rfl ?_
              refine G_not (b' := false) (dj := 57) rfl rfl rfl rfl ?_
              refine L_val (v := .bool false) (y_pick_f (ev_tv rfl rfl) ev_c) ?_
              refine L_val (v := .bool false) (y_assign (ev_tv rfl rfl)) ?_
              refine l_nil ?_
              refine then_norm ?_
              refine hK38 _ _ ?_
              clear hK38
              refine c_ret ?_
              exact body_1 rfl (ev_tv rfl rfl) H
          · replace H := H.2 hb42
            have hq43 : Value.bool (x45) = Value.bool false := congrArg Value.bool hb42
            refine G_not (b' := false) (dj := 36) rfl rfl hq43 rfl ?_
            refine G_not (b' := false) (dj := 36) rfl rfl hq43 rfl ?_
            refine G_not (b' := false) (dj := 36) rfl rfl hq43 rfl ?_
            refine G_not (b' := false) (dj := 36) rfl rfl hq43 rfl ?_
            refine G_not (b' := false) (dj := 36) rfl rfl hq43 rfl ?_
            refine L_val (v := .bool false) (y_pick_f (ev_tv rfl hq43) ev_c) ?_
            refine L_val (v := .bool false) (y_move (ev_tv rfl rfl)) ?_
            refine G_not (b' := false) (dj := 43) rfl rfl rfl rfl ?_
            refine G_not (b' := false) (dj := 43) rfl rfl rfl rfl ?_
            refine G_not (b' := false) (dj := 43) rfl rfl rfl rfl ?_
            refine G_not (b' := false) (dj := 43) rfl rfl rfl rfl ?_
            refine G_not (b' := false) (dj := 43) rfl rfl rfl rfl ?_
            refine L_val (v := .bool false) (y_pick_f (ev_tv rfl rfl) ev_c) ?_
            refine L_val (v := .bool false) (y_move (ev_tv rfl rfl)) ?_
            refine G_not (b' := false) (dj := 50) rfl rfl rfl rfl ?_
            refine G_not (b' := false) (dj := 50) rfl rfl rfl rfl ?_
            refine G_not (b' := false) (dj := 50) rfl rfl rfl rfl ?_
            refine G_not (b' := false) (dj := 50) rfl rfl rfl rfl ?_
            refine G_not (b' := false) (dj := 50) rfl rfl rfl rfl ?_
            refine L_val (v := .bool false) (y_pick_f (ev_tv rfl rfl) ev_c) ?_
            refine L_val (v := .bool false) (y_move (ev_tv rfl rfl)) ?_
            refine G_not (b' := false) (dj := 57) rfl rfl rfl rfl ?_
            refine G_not (b' := false) (dj := 57) rfl rfl rfl rfl ?_
            refine G_not (b' := false) (dj := 57) rfl rfl rfl rfl ?_
            refine L_val (v := .bool false) (y_pick_f (ev_tv rfl rfl) ev_c) ?_
            refine L_val (v := .bool false) (y_assign (ev_tv rfl rfl)) ?_
            refine l_nil ?_
            refine then_norm ?_
            refine hK38 _ _ ?_
            clear hK38
            refine c_ret ?_
            exact body_1 rfl (ev_tv rfl rfl) H

/-- (parapet/waitq.Queue).Sleep -/
def Vc7 (a_q1 : Option Addr) (a_tid2 : Int) (a_on3 : Option Addr) (a_on3l : Nat) (a_on3c : Nat) (w : World) (R : Ending → World → Prop) : Prop :=
  (Calls Try.prog 17 #[.pointer a_q1] w fun e w5 => ∃ x4 : Bool, e = .returned (.bool x4) ∧ (((x4 = true) → ((((a_tid2 : Int) < 1) → R (.returned (.int .i64 1)) w5) ∧ ((¬ ((a_tid2 : Int) < 1)) → ((((((a_on3l : Nat) : Int) : Int) = 0) → R (.returned (.int .i64 1)) w5) ∧ ((¬ ((((a_on3l : Nat) : Int) : Int) = 0)) → ((((16 : Int) < ((a_on3l : Nat) : Int)) → R (.returned (.int .i64 1)) w5) ∧ ((¬ ((16 : Int) < ((a_on3l : Nat) : Int))) → (∃ J17 : World → Prop, (∀  (w7 : World), J17  w7 → (∃ (b8 o9 : Nat), a_q1 = some ⟨b8, o9, none⟩ ∧ (∃ x10 : Option Nat, World.cell? w7 ⟨b8, o9 + 1, none⟩ = some (.map x10) ∧ (∃ x11 : Option Addr, ∃ x11l : Nat, ∃ x11c : Nat, ∃ ok12 : Bool, (Instr.lookup 50 (.map x10) (.int .i64 a_tid2) true).run Try.prog w7 = .ok (.tuple #[.slice x11 x11l x11c, .bool ok12]) w7 ∧ (((ok12 = true) → R (.returned (.int .i64 101)) w7) ∧ ((ok12 = false) → (∃ x13 : Option Nat, World.cell? w7 ⟨b8, o9 + 1, none⟩ = some (.map x13) ∧ (∃ n14 : Int, (Builtin.len_ #[50] 3 #[.map x13]).run Try.prog w7 = .ok (.int .i64 n14) w7 ∧ ((((64 : Int) ≤ n14) → R (.returned (.int .i64 2)) w7) ∧ ((¬ ((64 : Int) ≤ n14)) → (∃ x15 : Option Nat, World.cell? (w7.drew) ⟨b8, o9 + 1, none⟩ = some (.map x15) ∧ (Calls Try.prog 19 #[.slice a_on3 a_on3l a_on3c] (w7.drew) fun e w17 => ∃ x16 : Option Addr, ∃ x16l : Nat, ∃ x16c : Nat, e = .returned (.slice x16 x16l x16c) ∧ (World.cell? w17 ⟨b8, o9 + 1, none⟩ = some (.map x15) ∧ (∃ w18 : World, (Instr.mapUpdate 50 (.map x15) (.int .i64 a_tid2) (.slice x16 x16l x16c)).run Try.prog w17 = .ok () w18 ∧ (∃ I43 : Nat → Int → World → Prop, (∃ m, I43 m 0 w18) ∧ ∀ (m20 : Nat) (v19 : Int) (w21 : World), I43 m20 v19 w21 → ((((v19 : Int) < ((a_on3l : Nat) : Int)) → (∃ (b22 o23 : Nat), a_on3 = some ⟨b22, o23, none⟩ ∧ ((0 : Int) ≤ v19 ∧ v19 < ((a_on3l : Nat) : Int) ∧ (∃ x24 : Int, ∃ x25 : Int, ∃ x26 : Int, CellsAt w21 ⟨b22, o23 + (v19 : Int).toNat * 3, none⟩ [.int .i64 x24, .int .i64 x25, .int .i64 x26] ∧ (∀ (b27 : Nat) (w28 : World), b27 = World.heapSize w21 → w28 = World.alloc w21 (.cells #[.int .i64 0, .int .i64 0, .int .i64 0] 29) → ((∀ j, j < 3 → (World.cell? w28 (Addr.add ⟨b27, 0, none⟩ j)).isSome = true ∧ World.frozen? w28 (Addr.add ⟨b27, 0, none⟩ j) = false) ∧ ∀ w29 : World, w29 = putCells w28 ⟨b27, 0, none⟩ [.int .i64 x24, .int .i64 x25, .int .i64 x26] 0 → (∃ x30 : Option Nat, World.cell? (w29.drew) ⟨b8, o9, none⟩ = some (.map x30) ∧ (∃ x31 : Int, ∃ x32 : Int, ∃ x33 : Int, CellsAt (w29.drew) ⟨b27, 0, none⟩ [.int .i64 x31, .int .i64 x32, .int .i64 x33] ∧ (∀ (b34 : Nat) (w35 : World), b34 = World.heapSize (w29.drew) → w35 = World.alloc (w29.drew) (.cells #[.int .i64 a_tid2] 3) → (CellsAt w35 ⟨b27, 0, none⟩ [.int .i64 x31, .int .i64 x32, .int .i64 x33] ∧ World.cell? w35 ⟨b8, o9, none⟩ = some (.map x30) ∧ (∃ x36 : Option Addr, ∃ x36l : Nat, ∃ x36c : Nat, ∃ s37 : Int, ∃ w38 : World, (Instr.mapEntry 49 (.map x30) (.agg #[.int .i64 x31, .int .i64 x32, .int .i64 x33])).run Try.prog w35 = .ok (.tuple #[.slice x36 x36l x36c, .int .i64 s37]) w38 ∧ (∃ x40 : Option Addr, ∃ x40l : Nat, ∃ x40c : Nat, ∃ w39 : World, (Builtin.append_ #[34, 34] 34 #[.slice x36 x36l x36c, .slice (some ⟨b34, 0, none⟩) 1 1]).run Try.prog w38 = .ok (.slice x40 x40l x40c) w39 ∧ (∃ w41 : World, (Instr.entryStore 49 (.map x30) (.int .i64 s37) (.slice x40 x40l x40c)).run Try.prog w39 = .ok () w41 ∧ (∀ r42 : Int, r42 = IntKind.wrap .i64 (v19 + 1) → (∃ m43, m43 < m20 ∧ I43 m43 r42 w41))))))))))))))) ∧ ((¬ ((v19 : Int) < ((a_on3l : Nat) : Int))) → R (.returned (.int .i64 0)) w21))))))))))))))))) ∧ (∃ I78 : Nat → Int → World → Prop, (∃ m, I78 m 0 w5) ∧ ∀ (m45 : Nat) (v44 : Int) (w46 : World), I78 m45 v44 w46 → ((((v44 : Int) < ((a_on3l : Nat) : Int)) → (∃ (b47 o48 : Nat), a_on3 = some ⟨b47, o48, none⟩ ∧ ((0 : Int) ≤ v44 ∧ v44 < ((a_on3l : Nat) : Int) ∧ (∃ x49 : Int, ∃ x50 : Int, ∃ x51 : Int, CellsAt w46 ⟨b47, o48 + (v44 : Int).toNat * 3, none⟩ [.int .i64 x49, .int .i64 x50, .int .i64 x51] ∧ (∀ (b52 : Nat) (w53 : World), b52 = World.heapSize w46 → w53 = World.alloc w46 (.cells #[.int .i64 0, .int .i64 0, .int .i64 0] 29) → ((∀ j, j < 3 → (World.cell? w53 (Addr.add ⟨b52, 0, none⟩ j)).isSome = true ∧ World.frozen? w53 (Addr.add ⟨b52, 0, none⟩ j) = false) ∧ ∀ w54 : World, w54 = putCells w53 ⟨b52, 0, none⟩ [.int .i64 x49, .int .i64 x50, .int .i64 x51] 0 → ((0 : Int) ≤ v44 ∧ v44 ≤ ((a_on3c : Nat) : Int) ∧ ∀ a55 : Option Addr, a55 = (some ⟨b47, o48, none⟩) → (∃ x56 : Int, ∃ x57 : Int, ∃ x58 : Int, CellsAt (w54.drew) ⟨b52, 0, none⟩ [.int .i64 x56, .int .i64 x57, .int .i64 x58] ∧ (Calls Try.prog 18 #[.slice a55 ((v44 : Int).toNat) a_on3c, .agg #[.int .i64 x56, .int .i64 x57, .int .i64 x58]] (w54.drew) fun e w60 => ∃ x59 : Bool, e = .returned (.bool x59) ∧ (((x59 = true) → R (.returned (.int .i64 1)) w60) ∧ ((x59 = false) → (∀ r61 : Int, r61 = IntKind.wrap .i64 (v44 + 1) → (∃ m62, m62 < m45 ∧ I78 m62 r61 w60))))))))))))) ∧ ((¬ ((v44 : Int) < ((a_on3l : Nat) : Int))) → J17  w46))))))))))) ∧ ((x4 = false) → R (.returned (.int .i64 6)) w5)))

theorem vc7 {a_q1 : Option Addr} {a_tid2 : Int} {a_on3 : Option Addr} {a_on3l : Nat} {a_on3c : Nat} {w : World} {R : Ending → World → Prop} (H : Vc7 a_q1 a_tid2 a_on3 a_on3l a_on3c w R) : Calls Try.prog 7 #[.pointer a_q1, .int .i64 a_tid2, .slice a_on3 a_on3l a_on3c] w R := by
  unfold Vc7 at H
  refine calls_start [.pointer a_q1, .int .i64 a_tid2, .slice a_on3 a_on3l a_on3c] Try.func7 rfl Try.ntmps7 rfl ?_
  refine c_seq ?_
  intro K1 hK1
  refine c_region ?_
  refine L_val (v := .int .i64 0) (y_assign ev_c) ?_
  refine l_nil ?_
  refine then_norm ?_
  refine hK1 _ _ ?_
  clear hK1
  refine c_seq ?_
  intro K2 hK2
  refine c_seq ?_
  intro K3 hK3
  refine c_region ?_
  refine L_val (v := .pointer a_q1) (y_move (ev_tv rfl rfl)) ?_
  refine L_call (y_call Try.call17 (map_ev1 (ev_tv rfl rfl)) ev_f) (Calls.mono H ?_)
  clear H
  rintro _ w5 ⟨x4, rfl, H⟩
  refine ⟨_, rfl, ?_⟩
  rcases Bool.eq_false_or_eq_true x4 with hb4 | hb4
  · replace H := H.1 hb4
    have hq5 : Value.bool (x4) = Value.bool true := congrArg Value.bool hb4
    refine L_val (v := .bool false) (y_not_t (ev_tv rfl hq5)) ?_
    refine l_nil ?_
    refine then_norm ?_
    refine hK3 _ _ ?_
    clear hK3
    refine cond_f (ev_tv rfl rfl) ?_
    refine c_skip ?_
    refine then_norm ?_
    refine hK2 _ _ ?_
    clear hK2
    refine c_seq ?_
    intro K6 hK6
    refine c_seq ?_
    intro K7 hK7
    refine c_region ?_
    refine L_val (v := .int .i64 a_tid2) (y_move (ev_tv rfl rfl)) ?_
    refine L_val (v := .bool (decide ((a_tid2 : Int) < 1))) (y_lss (ev_tv rfl rfl) ev_c) ?_
    refine L_val (v := .bool (decide ((a_tid2 : Int) < 1))) (y_move (ev_tv rfl rfl)) ?_
    rcases (Decidable.em ((a_tid2 : Int) < 1)) with hb8 | hb8
    · replace H := H.1 hb8
      have hq9 : Value.bool (decide ((a_tid2 : Int) < 1)) = Value.bool true := congrArg Value.bool (decide_eq_true hb8)
      refine G_not (b' := true) (dj := 18) rfl rfl hq9 rfl ?_
      refine G_not (b' := true) (dj := 18) rfl rfl hq9 rfl ?_
      refine G_not (b' := true) (dj := 18) rfl rfl hq9 rfl ?_
      refine L_val (v := .bool true) (y_pick_t (ev_tv rfl hq9) ev_c) ?_
      refine L_val (v := .bool true) (y_move (ev_tv rfl rfl)) ?_
      refine G_not (b' := true) (dj := 23) rfl rfl rfl rfl ?_
      refine G_not (b' := true) (dj := 23) rfl rfl rfl rfl ?_
      refine G_not (b' := true) (dj := 23) rfl rfl rfl rfl ?_
      refine L_val (v := .bool true) (y_pick_t (ev_tv rfl rfl) ev_c) ?_
      refine l_nil ?_
      refine then_norm ?_
      refine hK7 _ _ ?_
      clear hK7
      refine cond_t (ev_tv rfl rfl) ?_
      refine c_seq ?_
      intro K10 hK10
      refine c_region ?_
      refine L_val (v := .int .i64 1) (y_assign ev_c) ?_
      refine l_nil ?_
      refine then_norm ?_
      refine hK10 _ _ ?_
      clear hK10
      refine c_ret ?_
      refine then_ret ?_
      exact body_1 rfl (ev_tv rfl rfl) H
    · replace H := H.2 hb8
      have hq9 : Value.bool (decide ((a_tid2 : Int) < 1)) = Value.bool false := congrArg Value.bool (decide_eq_false hb8)
      refine G_val (dj := 18) rfl rfl hq9 (v := .slice a_on3 a_on3l a_on3c) (y_move (ev_tv rfl rfl)) ?_
      refine G_val (dj := 18) rfl rfl hq9 (v := .int .i64 ((a_on3l : Nat) : Int)) (y_len Try.underlying27 rfl (map_ev1 (ev_tv rfl rfl))) ?_
      refine G_val (dj := 18) rfl rfl hq9 (v := .bool (decide ((((a_on3l : Nat) : Int) : Int) = 0))) (y_ieq (ev_tv rfl rfl) ev_c) ?_
      refine L_val (v := .bool (decide ((((a_on3l : Nat) : Int) : Int) = 0))) (y_pick_f (ev_tv rfl hq9) (ev_tv rfl rfl)) ?_
      refine L_val (v := .bool (decide ((((a_on3l : Nat) : Int) : Int) = 0))) (y_move (ev_tv rfl rfl)) ?_
      rcases (Decidable.em ((((a_on3l : Nat) : Int) : Int) = 0)) with hb11 | hb11
      · replace H := H.1 hb11
        have hq12 : Value.bool (decide ((((a_on3l : Nat) : Int) : Int) = 0)) = Value.bool true := congrArg Value.bool (decide_eq_true hb11)
        refine G_not (b' := true) (dj := 23) rfl rfl hq12 rfl ?_
        refine G_not (b' := true) (dj := 23) rfl rfl hq12 rfl ?_
        refine G_not (b' := true) (dj := 23) rfl rfl hq12 rfl ?_
        refine L_val (v := .bool true) (y_pick_t (ev_tv rfl hq12) ev_c) ?_
        refine l_nil ?_
        refine then_norm ?_
        refine hK7 _ _ ?_
        clear hK7
        refine cond_t (ev_tv rfl rfl) ?_
        refine c_seq ?_
        intro K13 hK13
        refine c_region ?_
        refine L_val (v := .int .i64 1) (y_assign ev_c) ?_
        refine l_nil ?_
        refine then_norm ?_
        refine hK13 _ _ ?_
        clear hK13
        refine c_ret ?_
        refine then_ret ?_
        exact body_1 rfl (ev_tv rfl rfl) H
      · replace H := H.2 hb11
        have hq12 : Value.bool (decide ((((a_on3l : Nat) : Int) : Int) = 0)) = Value.bool false := congrArg Value.bool (decide_eq_false hb11)
        refine G_val (dj := 23) rfl rfl hq12 (v := .slice a_on3 a_on3l a_on3c) (y_move (ev_tv rfl rfl)) ?_
        refine G_val (dj := 23) rfl rfl hq12 (v := .int .i64 ((a_on3l : Nat) : Int)) (y_len Try.underlying27 rfl (map_ev1 (ev_tv rfl rfl))) ?_
        refine G_val (dj := 23) rfl rfl hq12 (v := .bool (decide ((16 : Int) < ((a_on3l : Nat) : Int)))) (y_gtr (ev_tv rfl rfl) ev_c) ?_
        refine L_val (v := .bool (decide ((16 : Int) < ((a_on3l : Nat) : Int)))) (y_pick_f (ev_tv rfl hq12) (ev_tv rfl rfl)) ?_
        refine l_nil ?_
        refine then_norm ?_
        refine hK7 _ _ ?_
        clear hK7
        rcases (Decidable.em ((16 : Int) < ((a_on3l : Nat) : Int))) with hb14 | hb14
        · replace H := H.1 hb14
          have hq15 : Value.bool (decide ((16 : Int) < ((a_on3l : Nat) : Int))) = Value.bool true := congrArg Value.bool (decide_eq_true hb14)
          refine cond_t (ev_tv rfl hq15) ?_
          refine c_seq ?_
          intro K16 hK16
          refine c_region ?_
          refine L_val (v := .int .i64 1) (y_assign ev_c) ?_
          refine l_nil ?_
          refine then_norm ?_
          refine hK16 _ _ ?_
          clear hK16
          refine c_ret ?_
          refine then_ret ?_
          exact body_1 rfl (ev_tv rfl rfl) H
        · replace H := H.2 hb14
          have hq15 : Value.bool (decide ((16 : Int) < ((a_on3l : Nat) : Int))) = Value.bool false := congrArg Value.bool (decide_eq_false hb14)
          refine cond_f (ev_tv rfl hq15) ?_
          refine c_skip ?_
          refine then_norm ?_
          refine hK6 _ _ ?_
          clear hK6
          obtain ⟨J17, hJ18, H⟩ := H
          refine c_seqJ [(6, 8), (28, 40)] (fun ff ww => J17  ww) ?_ ?_
          · clear hJ18
            intro K22 hK22
            refine c_seq ?_
            intro K77 hK77
            refine c_region ?_
            refine L_val (v := .slice a_on3 a_on3l a_on3c) (y_move (ev_tv rfl rfl)) ?_
            refine L_val (v := .int .i64 ((a_on3l : Nat) : Int)) (y_len Try.underlying27 rfl (map_ev1 (ev_tv rfl rfl))) ?_
            refine L_val (v := .int .i64 0) (y_move ev_c) ?_
            refine l_nil ?_
            refine then_norm ?_
            refine hK77 _ _ ?_
            clear hK77
            refine c_block ?_
            obtain ⟨I78, ⟨m82, HI83⟩, H⟩ := H
            refine loop_fr ([(6, 8), (30, 40)]) (fun m ff ww => ∃ (v44 : Int), ff 30 = (.int .i64 v44 : Value) ∧ I78 m v44 ww) m82 ⟨0, rfl, HI83⟩ ?_
            rintro m45 f79 w46 hag80 ⟨v44, hs84, HI81⟩
            replace H := H m45 v44 w46 HI81
            refine c_seq ?_
            intro K85 hK85
            refine c_region ?_
            refine L_val (v := .bool (decide ((v44 : Int) < ((a_on3l : Nat) : Int)))) (y_lss (ev_tv rfl hs84) (ev_tv rfl ((hag80 29 rfl).trans rfl))) ?_
            refine l_nil ?_
            refine then_norm ?_
            refine hK85 _ _ ?_
            clear hK85
            refine c_seq ?_
            intro K86 hK86
            rcases (Decidable.em ((v44 : Int) < ((a_on3l : Nat) : Int))) with hb87 | hb87
            · replace H := H.1 hb87
              have hq88 : Value.bool (decide ((v44 : Int) < ((a_on3l : Nat) : Int))) = Value.bool true := congrArg Value.bool (decide_eq_true hb87)
              refine cond_t (ev_tv rfl hq88) ?_
              refine c_skip ?_
              refine then_norm ?_
              refine hK86 _ _ ?_
              clear hK86
              refine c_seq ?_
              intro K89 hK89
              refine c_block ?_
              refine c_seq ?_
              intro K90 hK90
              refine c_region ?_
              refine L_val (v := .int .i64 v44) (y_move (ev_tv rfl hs84)) ?_
              obtain ⟨b47, o48, rfl, H⟩ := H
              obtain ⟨hi91, hi92, H⟩ := H
              refine L_val (v := .pointer (some ⟨b47, o48 + (v44 : Int).toNat * 3, none⟩)) (y_ix Try.underlying27 Try.type29 rfl (ev_tv rfl ((hag80 28 rfl).trans rfl)) (ev_tv rfl hs84) hi91 hi92) ?_
              obtain ⟨x49, x50, x51, hc93, H⟩ := H
              refine L_val (v := .agg #[.int .i64 x49, .int .i64 x50, .int .i64 x51]) (y_loadAgg Try.underlying29 rfl Try.type29 rfl (ev_tv rfl rfl) hc93) ?_
              obtain ⟨b52, hb94⟩ : ∃ b52 : Nat, b52 = World.heapSize w46 := ⟨_, rfl⟩
              obtain ⟨w53, hw95⟩ : ∃ w53 : World, w53 = World.alloc w46 (.cells #[.int .i64 0, .int .i64 0, .int .i64 0] 29) := ⟨_, rfl⟩
              replace H := H b52 w53 hb94 hw95
              refine L_val (v := .pointer (some ⟨b52, 0, none⟩)) (y_alloc Try.type29 rfl rfl hb94 hw95) ?_
              refine L_val (v := .int .i64 v44) (y_assign (ev_tv rfl rfl)) ?_
              obtain ⟨hc96, H⟩ := H
              obtain ⟨w54, hw98⟩ : ∃ w54 : World, w54 = putCells w53 ⟨b52, 0, none⟩ [.int .i64 x49, .int .i64 x50, .int .i64 x51] 0 := ⟨_, rfl⟩
              replace H := H w54 hw98
              refine L_skip (y_storeAgg Try.type29 rfl (by intro v hv; simp only [List.mem_cons, List.not_mem_nil, or_false] at hv; rcases hv with rfl | rfl | rfl <;> rfl) (ev_tv rfl rfl) (ev_tv rfl rfl) hc96 hw98) ?_
              refine l_nil ?_
              refine then_norm ?_
              refine hK90 _ _ ?_
              clear hK90
              refine c_seq ?_
              intro K99 hK99
              refine D_start Try.mixed rfl [4] ?_
              refine start_keep fun hS => ?_
              refine D_pure (i := 0) (v := .slice (some ⟨b47, o48, none⟩) a_on3l a_on3c) rfl (by kernel_rfl) (W_none rfl) (fun _ => y_move (ev_tv rfl ((hag80 2 rfl).trans rfl))) hS ?_
              intro hS
              refine D_pure (i := 1) (v := .int .i64 v44) rfl (by kernel_rfl) (W_none rfl) (fun _ => y_move (ev_tv rfl rfl)) hS ?_
              intro hS
              obtain ⟨hi101, hi102, H⟩ := H
              obtain ⟨a55, ha100⟩ : ∃ a55 : Option Addr, a55 = (some ⟨b47, o48, none⟩) := ⟨_, rfl⟩
              replace H := H a55 ha100
              refine D_pure (i := 2) (v := .slice a55 ((v44 : Int).toNat) a_on3c) rfl (by kernel_rfl) (W_none rfl) (fun _ => y_sliceH Try.underlying27 Try.type29 (ev_tv rfl rfl) (ev_tv rfl rfl) hi101 hi102 ha100) hS ?_
              intro hS
              obtain ⟨x56, x57, x58, hc103, H⟩ := H
              refine D_read (i := 3) (v := .agg #[.int .i64 x56, .int .i64 x57, .int .i64 x58]) rfl (by kernel_rfl) (W_none rfl) (fun wx => CellsAt wx ⟨b52, 0, none⟩ [.int .i64 x56, .int .i64 x57, .int .i64 x58]) hc103 (fun _ hcx => y_loadAgg Try.underlying29 rfl Try.type29 rfl (ev_tv rfl rfl) hcx) hS ?_
              intro hS
              refine D_only (i := 4) (by kernel_rfl) rfl ?_
              refine O_call (i := 4) rfl (W_none rfl) (y_call Try.call18 (map_ev2 (ev_tv rfl rfl) (ev_tv rfl rfl)) ev_f) (Calls.mono H ?_)
              clear H
              rintro _ w60 ⟨x59, rfl, H⟩
              refine ⟨_, rfl, ?_⟩
              refine and_keep (SS_off (by kernel_rfl) SS_nil) fun hS => ?_
              refine D_done (by kernel_rfl) ?_
              refine then_norm ?_
              refine hK99 _ _ ?_
              clear hK99
              rcases Bool.eq_false_or_eq_true x59 with hb104 | hb104
              · replace H := H.1 hb104
                have hq105 : Value.bool (x59) = Value.bool true := congrArg Value.bool hb104
                refine cond_t (ev_tv rfl hq105) ?_
                refine c_seq ?_
                intro K106 hK106
                refine c_region ?_
                refine L_val (v := .int .i64 1) (y_assign ev_c) ?_
                refine l_nil ?_
                refine then_norm ?_
                refine hK106 _ _ ?_
                clear hK106
                refine c_ret ?_
                refine block_ret ?_
                refine then_ret ?_
                refine then_ret ?_
                refine block_ret ?_
                refine then_ret ?_
                exact body_1 rfl (ev_tv rfl rfl) H
              · replace H := H.2 hb104
                have hq105 : Value.bool (x59) = Value.bool false := congrArg Value.bool hb104
                refine cond_f (ev_tv rfl hq105) ?_
                refine c_skip ?_
                refine block_norm ?_
                refine then_norm ?_
                refine hK89 _ _ ?_
                clear hK89
                refine c_region ?_
                obtain ⟨r61, hr107⟩ : ∃ r61 : Int, r61 = IntKind.wrap .i64 (v44 + 1) := ⟨_, rfl⟩
                replace H := H r61 hr107
                refine L_val (v := .int .i64 r61) (y_add (ev_tv rfl hs84) ev_c hr107) ?_
                refine L_val (v := .int .i64 r61) (y_move (ev_tv rfl rfl)) ?_
                refine l_nil ?_
                refine then_norm ?_
                obtain ⟨m62, hm108, H⟩ := H
                exact ⟨_, rfl, (by repeat (first | exact agree_refl | exact hag80 | refine agree_upd rfl ?_ | refine agree_via hag80 rfl ?_)), m62, hm108, _, rfl, H⟩
            · replace H := H.2 hb87
              have hq88 : Value.bool (decide ((v44 : Int) < ((a_on3l : Nat) : Int))) = Value.bool false := congrArg Value.bool (decide_eq_false hb87)
              refine cond_f (ev_tv rfl hq88) ?_
              refine c_exit ?_
              refine then_exit ?_
              refine then_exit ?_
              refine block_hit ?_
              refine then_norm ?_
              exact hK22 _ _ (by repeat (first | exact agree_refl | exact hag80 | refine agree_upd rfl ?_ | refine agree_via hag80 rfl ?_)) H
          · clear H
            intro f19 w7 hag20 HJ21
            have H := hJ18  w7 HJ21
            clear hJ18
            refine c_seq ?_
            intro K23 hK23
            refine c_seq ?_
            intro K24 hK24
            refine c_region ?_
            refine L_val (v := .pointer a_q1) (y_move (ev_tv rfl ((hag20 0 rfl).trans rfl))) ?_
            obtain ⟨b8, o9, rfl, H⟩ := H
            refine L_val (v := .pointer (some ⟨b8, o9, none⟩)) (y_nilCheck (ev_tv rfl rfl)) ?_
            refine L_val (v := .pointer (some ⟨b8, o9 + 1, none⟩)) (Try.fa52_1 (ev_tv rfl rfl)) ?_
            obtain ⟨x10, hc25, H⟩ := H
            refine L_val (v := .map x10) (y_load Try.underlying50 rfl (ev_tv rfl rfl) hc25) ?_
            refine L_val (v := .int .i64 a_tid2) (y_move (ev_tv rfl ((hag20 1 rfl).trans rfl))) ?_
            obtain ⟨x11, x11l, x11c, ok12, hc26, H⟩ := H
            refine L_val (v := .tuple #[.slice x11 x11l x11c, .bool ok12]) (y_lookup (ev_tv rfl rfl) (ev_tv rfl rfl) hc26) ?_
            refine L_val (v := .tuple #[.slice x11 x11l x11c, .bool ok12]) (y_move (ev_tv rfl rfl)) ?_
            refine L_val (v := .slice x11 x11l x11c) (y_extract (ev_tv rfl rfl) rfl) ?_
            refine L_val (v := .bool ok12) (y_extract (ev_tv rfl rfl) rfl) ?_
            refine L_val (v := .slice x11 x11l x11c) (y_assign (ev_tv rfl rfl)) ?_
            refine L_val (v := .bool ok12) (y_assign (ev_tv rfl rfl)) ?_
            refine l_nil ?_
            refine then_norm ?_
            refine hK24 _ _ ?_
            clear hK24
            refine c_seq ?_
            intro K27 hK27
            refine c_region ?_
            refine L_val (v := .bool ok12) (y_move (ev_tv rfl rfl)) ?_
            refine l_nil ?_
            refine then_norm ?_
            refine hK27 _ _ ?_
            clear hK27
            rcases Bool.eq_false_or_eq_true ok12 with hb28 | hb28
            · replace H := H.1 hb28
              have hq29 : Value.bool (ok12) = Value.bool true := congrArg Value.bool hb28
              refine cond_t (ev_tv rfl hq29) ?_
              refine c_seq ?_
              intro K30 hK30
              refine c_region ?_
              refine L_val (v := .int .i64 101) (y_assign ev_c) ?_
              refine l_nil ?_
              refine then_norm ?_
              refine hK30 _ _ ?_
              clear hK30
              refine c_ret ?_
              refine then_ret ?_
              exact body_1 rfl (ev_tv rfl rfl) H
            · replace H := H.2 hb28
              have hq29 : Value.bool (ok12) = Value.bool false := congrArg Value.bool hb28
              refine cond_f (ev_tv rfl hq29) ?_
              refine c_skip ?_
              refine then_norm ?_
              refine hK23 _ _ ?_
              clear hK23
              refine c_seq ?_
              intro K31 hK31
              refine c_seq ?_
              intro K32 hK32
              refine c_region ?_
              refine L_val (v := .pointer (some ⟨b8, o9, none⟩)) (y_move (ev_tv rfl ((hag20 0 rfl).trans rfl))) ?_
              refine L_val (v := .pointer (some ⟨b8, o9, none⟩)) (y_nilCheck (ev_tv rfl rfl)) ?_
              refine L_val (v := .pointer (some ⟨b8, o9 + 1, none⟩)) (Try.fa52_1 (ev_tv rfl rfl)) ?_
              obtain ⟨x13, hc33, H⟩ := H
              refine L_val (v := .map x13) (y_load Try.underlying50 rfl (ev_tv rfl rfl) hc33) ?_
              obtain ⟨n14, hc34, H⟩ := H
              refine L_val (v := .int .i64 n14) (y_bi_len (map_ev1 (ev_tv rfl rfl)) hc34) ?_
              refine L_val (v := .bool (decide ((64 : Int) ≤ n14))) (y_geq (ev_tv rfl rfl) ev_c) ?_
              refine l_nil ?_
              refine then_norm ?_
              refine hK32 _ _ ?_
              clear hK32
              rcases (Decidable.em ((64 : Int) ≤ n14)) with hb35 | hb35
              · replace H := H.1 hb35
                have hq36 : Value.bool (decide ((64 : Int) ≤ n14)) = Value.bool true := congrArg Value.bool (decide_eq_true hb35)
                refine cond_t (ev_tv rfl hq36) ?_
                refine c_seq ?_
                intro K37 hK37
                refine c_region ?_
                refine L_val (v := .int .i64 2) (y_assign ev_c) ?_
                refine l_nil ?_
                refine then_norm ?_
                refine hK37 _ _ ?_
                clear hK37
                refine c_ret ?_
                refine then_ret ?_
                exact body_1 rfl (ev_tv rfl rfl) H
              · replace H := H.2 hb35
                have hq36 : Value.bool (decide ((64 : Int) ≤ n14)) = Value.bool false := congrArg Value.bool (decide_eq_false hb35)
                refine cond_f (ev_tv rfl hq36) ?_
                refine c_skip ?_
                refine then_norm ?_
                refine hK31 _ _ ?_
                clear hK31
                refine c_seq ?_
                intro K38 hK38
                refine D_start Try.mixed rfl [6, 7] ?_
                refine start_keep fun hS => ?_
                refine D_pure (i := 0) (v := .pointer (some ⟨b8, o9, none⟩)) rfl (by kernel_rfl) (W_none rfl) (fun _ => y_move (ev_tv rfl ((hag20 0 rfl).trans rfl))) hS ?_
                intro hS
                refine D_pure (i := 1) (v := .pointer (some ⟨b8, o9, none⟩)) rfl (by kernel_rfl) (W_none rfl) (fun _ => y_nilCheck (ev_tv rfl rfl)) hS ?_
                intro hS
                refine D_pure (i := 2) (v := .pointer (some ⟨b8, o9 + 1, none⟩)) rfl (by kernel_rfl) (W_none rfl) (fun _ => Try.fa52_1 (ev_tv rfl rfl)) hS ?_
                intro hS
                refine D_pure (i := 4) (v := .int .i64 a_tid2) rfl (by kernel_rfl) (W_none rfl) (fun _ => y_move (ev_tv rfl ((hag20 1 rfl).trans rfl))) hS ?_
                intro hS
                refine D_pure (i := 5) (v := .slice a_on3 a_on3l a_on3c) rfl (by kernel_rfl) (W_none rfl) (fun _ => y_move (ev_tv rfl ((hag20 2 rfl).trans rfl))) hS ?_
                intro hS
                obtain ⟨x15, hc39, H⟩ := H
                refine D_read (i := 3) (v := .map x15) rfl (by kernel_rfl) (W_none rfl) (fun wx => World.cell? wx ⟨b8, o9 + 1, none⟩ = some (.map x15)) hc39 (fun _ hcx => y_load Try.underlying50 rfl (ev_tv rfl rfl) hcx) hS ?_
                intro hS
                refine D_only (i := 6) (by kernel_rfl) rfl ?_
                refine O_call (i := 6) rfl (W_none rfl) (y_call Try.call19 (map_ev1 (ev_tv rfl rfl)) ev_f) (Calls.mono H ?_)
                clear H
                rintro _ w17 ⟨x16, x16l, x16c, rfl, H⟩
                refine ⟨_, rfl, ?_⟩
                obtain ⟨hs76, H⟩ := H
                refine and_keep (SS_on hs76 SS_nil) fun hS => ?_
                refine D_only (i := 7) (by kernel_rfl) rfl ?_
                obtain ⟨w18, hw40, H⟩ := H
                refine O_skip (i := 7) rfl (W_none rfl) (y_mapUpdate (ev_tv rfl rfl) (ev_tv rfl rfl) (ev_tv rfl rfl) hw40) ?_
                refine and_keep (SS_off (by kernel_rfl) SS_nil) fun hS => ?_
                refine D_done (by kernel_rfl) ?_
                refine then_norm ?_
                refine hK38 _ _ ?_
                clear hK38
                refine c_seq ?_
                intro K41 hK41
                refine c_seq ?_
                intro K42 hK42
                refine c_region ?_
                refine L_val (v := .slice a_on3 a_on3l a_on3c) (y_move (ev_tv rfl ((hag20 2 rfl).trans rfl))) ?_
                refine L_val (v := .int .i64 ((a_on3l : Nat) : Int)) (y_len Try.underlying27 rfl (map_ev1 (ev_tv rfl rfl))) ?_
                refine L_val (v := .int .i64 0) (y_move ev_c) ?_
                refine l_nil ?_
                refine then_norm ?_
                refine hK42 _ _ ?_
                clear hK42
                refine c_block ?_
                obtain ⟨I43, ⟨m47, HI48⟩, H⟩ := H
                refine loop_fr ([(12, 12), (66, 81)]) (fun m ff ww => ∃ (v19 : Int), ff 66 = (.int .i64 v19 : Value) ∧ I43 m v19 ww) m47 ⟨0, rfl, HI48⟩ ?_
                rintro m20 f44 w21 hag45 ⟨v19, hs49, HI46⟩
                replace H := H m20 v19 w21 HI46
                refine c_seq ?_
                intro K50 hK50
                refine c_region ?_
                refine L_val (v := .bool (decide ((v19 : Int) < ((a_on3l : Nat) : Int)))) (y_lss (ev_tv rfl hs49) (ev_tv rfl ((hag45 65 rfl).trans rfl))) ?_
                refine l_nil ?_
                refine then_norm ?_
                refine hK50 _ _ ?_
                clear hK50
                refine c_seq ?_
                intro K51 hK51
                rcases (Decidable.em ((v19 : Int) < ((a_on3l : Nat) : Int))) with hb52 | hb52
                · replace H := H.1 hb52
                  have hq53 : Value.bool (decide ((v19 : Int) < ((a_on3l : Nat) : Int))) = Value.bool true := congrArg Value.bool (decide_eq_true hb52)
                  refine cond_t (ev_tv rfl hq53) ?_
                  refine c_skip ?_
                  refine then_norm ?_
                  refine hK51 _ _ ?_
                  clear hK51
                  refine c_seq ?_
                  intro K54 hK54
                  refine c_block ?_
                  refine c_seq ?_
                  intro K55 hK55
                  refine c_region ?_
                  obtain ⟨b22, o23, rfl, H⟩ := H
                  obtain ⟨hi56, hi57, H⟩ := H
                  refine L_val (v := .pointer (some ⟨b22, o23 + (v19 : Int).toNat * 3, none⟩)) (y_ix Try.underlying27 Try.type29 rfl (ev_tv rfl ((hag45 64 rfl).trans rfl)) (ev_tv rfl hs49) hi56 hi57) ?_
                  obtain ⟨x24, x25, x26, hc58, H⟩ := H
                  refine L_val (v := .agg #[.int .i64 x24, .int .i64 x25, .int .i64 x26]) (y_loadAgg Try.underlying29 rfl Try.type29 rfl (ev_tv rfl rfl) hc58) ?_
                  obtain ⟨b27, hb59⟩ : ∃ b27 : Nat, b27 = World.heapSize w21 := ⟨_, rfl⟩
                  obtain ⟨w28, hw60⟩ : ∃ w28 : World, w28 = World.alloc w21 (.cells #[.int .i64 0, .int .i64 0, .int .i64 0] 29) := ⟨_, rfl⟩
                  replace H := H b27 w28 hb59 hw60
                  refine L_val (v := .pointer (some ⟨b27, 0, none⟩)) (y_alloc Try.type29 rfl rfl hb59 hw60) ?_
                  obtain ⟨hc61, H⟩ := H
                  obtain ⟨w29, hw63⟩ : ∃ w29 : World, w29 = putCells w28 ⟨b27, 0, none⟩ [.int .i64 x24, .int .i64 x25, .int .i64 x26] 0 := ⟨_, rfl⟩
                  replace H := H w29 hw63
                  refine L_skip (y_storeAgg Try.type29 rfl (by intro v hv; simp only [List.mem_cons, List.not_mem_nil, or_false] at hv; rcases hv with rfl | rfl | rfl <;> rfl) (ev_tv rfl rfl) (ev_tv rfl rfl) hc61 hw63) ?_
                  refine l_nil ?_
                  refine then_norm ?_
                  refine hK55 _ _ ?_
                  clear hK55
                  refine D_start Try.mixed rfl [6, 7, 9, 11] ?_
                  refine start_keep fun hS => ?_
                  refine D_pure (i := 0) (v := .pointer (some ⟨b8, o9, none⟩)) rfl (by kernel_rfl) (W_none rfl) (fun _ => y_move (ev_tv rfl ((hag45 0 rfl).trans ((hag20 0 rfl).trans rfl)))) hS ?_
                  intro hS
                  refine D_pure (i := 1) (v := .pointer (some ⟨b8, o9, none⟩)) rfl (by kernel_rfl) (W_none rfl) (fun _ => y_nilCheck (ev_tv rfl rfl)) hS ?_
                  intro hS
                  refine D_pure (i := 2) (v := .pointer (some ⟨b8, o9, none⟩)) rfl (by kernel_rfl) (W_none rfl) (fun _ => Try.fa52_0 (ev_tv rfl rfl)) hS ?_
                  intro hS
                  refine D_pure (i := 5) (v := .int .i64 a_tid2) rfl (by kernel_rfl) (W_none rfl) (fun _ => y_move (ev_tv rfl ((hag45 1 rfl).trans ((hag20 1 rfl).trans rfl)))) hS ?_
                  intro hS
                  obtain ⟨x30, hc64, H⟩ := H
                  refine D_read (i := 3) (v := .map x30) rfl (by kernel_rfl) (W_none rfl) (fun wx => World.cell? wx ⟨b8, o9, none⟩ = some (.map x30)) hc64 (fun _ hcx => y_load Try.underlying49 rfl (ev_tv rfl rfl) hcx) hS ?_
                  intro hS
                  obtain ⟨x31, x32, x33, hc65, H⟩ := H
                  refine D_read (i := 4) (v := .agg #[.int .i64 x31, .int .i64 x32, .int .i64 x33]) rfl (by kernel_rfl) (W_none rfl) (fun wx => CellsAt wx ⟨b27, 0, none⟩ [.int .i64 x31, .int .i64 x32, .int .i64 x33]) hc65 (fun _ hcx => y_loadAgg Try.underlying29 rfl Try.type29 rfl (ev_tv rfl rfl) hcx) hS ?_
                  intro hS
                  refine D_only (i := 6) (by kernel_rfl) rfl ?_
                  obtain ⟨b34, hb66⟩ : ∃ b34 : Nat, b34 = World.heapSize (w29.drew) := ⟨_, rfl⟩
                  obtain ⟨w35, hw67⟩ : ∃ w35 : World, w35 = World.alloc (w29.drew) (.cells #[.int .i64 a_tid2] 3) := ⟨_, rfl⟩
                  replace H := H b34 w35 hb66 hw67
                  refine O_val (i := 6) (v := .slice (some ⟨b34, 0, none⟩) 1 1) rfl (W_none rfl) (y_buildSlice (parts_ev1 (ev_tv rfl rfl)) hb66 hw67 (by kernel_rfl)) ?_
                  obtain ⟨hs73, hs74, H⟩ := H
                  refine and_keep (SS_on hs73 (SS_on hs74 SS_nil)) fun hS => ?_
                  refine D_only (i := 7) (by kernel_rfl) rfl ?_
                  obtain ⟨x36, x36l, x36c, s37, w38, hc68, H⟩ := H
                  refine O_val (i := 7) (v := .tuple #[.slice x36 x36l x36c, .int .i64 s37]) rfl (W_none rfl) (y_mapEntry (ev_tv rfl rfl) (ev_tv rfl rfl) hc68) ?_
                  refine and_keep (SS_off (by kernel_rfl) (SS_off (by kernel_rfl) SS_nil)) fun hS => ?_
                  refine D_pure (i := 8) (v := .slice x36 x36l x36c) rfl (by kernel_rfl) (W_none rfl) (fun _ => y_extract (ev_tv rfl rfl) rfl) hS ?_
                  intro hS
                  refine D_pure (i := 10) (v := .int .i64 s37) rfl (by kernel_rfl) (W_none rfl) (fun _ => y_extract (ev_tv rfl rfl) rfl) hS ?_
                  intro hS
                  refine D_only (i := 9) (by kernel_rfl) rfl ?_
                  obtain ⟨x40, x40l, x40c, w39, hc69, H⟩ := H
                  refine O_val (i := 9) (v := .slice x40 x40l x40c) rfl (W_none rfl) (y_bi_append (map_ev2 (ev_tv rfl rfl) (ev_tv rfl rfl)) hc69) ?_
                  refine and_keep (SS_off (by kernel_rfl) (SS_off (by kernel_rfl) SS_nil)) fun hS => ?_
                  refine D_only (i := 11) (by kernel_rfl) rfl ?_
                  obtain ⟨w41, hw70, H⟩ := H
                  refine O_skip (i := 11) rfl (W_none rfl) (y_entryStore (ev_tv rfl rfl) (ev_tv rfl rfl) (ev_tv rfl rfl) hw70) ?_
                  refine and_keep (SS_off (by kernel_rfl) (SS_off (by kernel_rfl) SS_nil)) fun hS => ?_
                  refine D_done (by kernel_rfl) ?_
                  refine block_norm ?_
                  refine then_norm ?_
                  refine hK54 _ _ ?_
                  clear hK54
                  refine c_region ?_
                  obtain ⟨r42, hr71⟩ : ∃ r42 : Int, r42 = IntKind.wrap .i64 (v19 + 1) := ⟨_, rfl⟩
                  replace H := H r42 hr71
                  refine L_val (v := .int .i64 r42) (y_add (ev_tv rfl hs49) ev_c hr71) ?_
                  refine L_val (v := .int .i64 r42) (y_move (ev_tv rfl rfl)) ?_
                  refine l_nil ?_
                  refine then_norm ?_
                  obtain ⟨m43, hm72, H⟩ := H
                  exact ⟨_, rfl, (by repeat (first | exact agree_refl | exact hag45 | exact hag20 | refine agree_upd rfl ?_ | refine agree_via hag45 rfl ?_ | refine agree_via hag20 rfl ?_)), m43, hm72, _, rfl, H⟩
                · replace H := H.2 hb52
                  have hq53 : Value.bool (decide ((v19 : Int) < ((a_on3l : Nat) : Int))) = Value.bool false := congrArg Value.bool (decide_eq_false hb52)
                  refine cond_f (ev_tv rfl hq53) ?_
                  refine c_exit ?_
                  refine then_exit ?_
                  refine then_exit ?_
                  refine block_hit ?_
                  refine then_norm ?_
                  refine hK41 _ _ ?_
                  clear hK41
                  refine c_seq ?_
                  intro K75 hK75
                  refine c_region ?_
                  refine L_val (v := .int .i64 0) (y_assign ev_c) ?_
                  refine l_nil ?_
                  refine then_norm ?_
                  refine hK75 _ _ ?_
                  clear hK75
                  refine c_ret ?_
                  exact body_1 rfl (ev_tv rfl rfl) H
  · replace H := H.2 hb4
    have hq5 : Value.bool (x4) = Value.bool false := congrArg Value.bool hb4
    refine L_val (v := .bool true) (y_not_f (ev_tv rfl hq5)) ?_
    refine l_nil ?_
    refine then_norm ?_
    refine hK3 _ _ ?_
    clear hK3
    refine cond_t (ev_tv rfl rfl) ?_
    refine c_seq ?_
    intro K109 hK109
    refine c_region ?_
    refine L_val (v := .int .i64 6) (y_assign ev_c) ?_
    refine l_nil ?_
    refine then_norm ?_
    refine hK109 _ _ ?_
    clear hK109
    refine c_ret ?_
    refine then_ret ?_
    exact body_1 rfl (ev_tv rfl rfl) H

/-- (parapet/waitq.Queue).Sleepers -/
def Vc8 (a_q1 : Option Addr) (a_c2 : Int) (a_c3 : Int) (a_c4 : Int) (w : World) (R : Ending → World → Prop) : Prop :=
  (∀ (b5 : Nat) (w6 : World), b5 = World.heapSize w → w6 = World.alloc w (.cells #[.int .i64 a_c2, .int .i64 a_c3, .int .i64 a_c4] 29) → (Calls Try.prog 17 #[.pointer a_q1] w6 fun e w8 => ∃ x7 : Bool, e = .returned (.bool x7) ∧ (((x7 = true) → (∃ (b10 o11 : Nat), a_q1 = some ⟨b10, o11, none⟩ ∧ (∃ x12 : Option Nat, World.cell? (w8.drew) ⟨b10, o11, none⟩ = some (.map x12) ∧ (∃ x13 : Int, ∃ x14 : Int, ∃ x15 : Int, CellsAt (w8.drew) ⟨b5, 0, none⟩ [.int .i64 x13, .int .i64 x14, .int .i64 x15] ∧ (∃ x16 : Option Addr, ∃ x16l : Nat, ∃ x16c : Nat, (Instr.lookup 49 (.map x12) (.agg #[.int .i64 x13, .int .i64 x14, .int .i64 x15]) false).run Try.prog (w8.drew) = .ok (.slice x16 x16l x16c) (w8.drew) ∧ (Calls Try.prog 20 #[.slice x16 x16l x16c] (w8.drew) fun e w18 => ∃ x17 : Option Addr, ∃ x17l : Nat, ∃ x17c : Nat, e = .returned (.slice x17 x17l x17c) ∧ (CellsAt w18 ⟨b5, 0, none⟩ [.int .i64 x13, .int .i64 x14, .int .i64 x15] ∧ World.cell? w18 ⟨b10, o11, none⟩ = some (.map x12) ∧ R (.returned (.slice x17 x17l x17c)) w18))))))) ∧ ((x7 = false) → R (.returned (.slice none 0 0)) w8))))

theorem vc8 {a_q1 : Option Addr} {a_c2 : Int} {a_c3 : Int} {a_c4 : Int} {w : World} {R : Ending → World → Prop} (H : Vc8 a_q1 a_c2 a_c3 a_c4 w R) : Calls Try.prog 8 #[.pointer a_q1, .agg #[.int .i64 a_c2, .int .i64 a_c3, .int .i64 a_c4]] w R := by
  unfold Vc8 at H
  refine calls_start [.pointer a_q1, .agg #[.int .i64 a_c2, .int .i64 a_c3, .int .i64 a_c4]] Try.func8 rfl Try.ntmps8 rfl ?_
  refine c_seq ?_
  intro K1 hK1
  refine c_region ?_
  obtain ⟨b5, hb2⟩ : ∃ b5 : Nat, b5 = World.heapSize w := ⟨_, rfl⟩
  obtain ⟨w6, hw3⟩ : ∃ w6 : World, w6 = World.alloc w (.cells #[.int .i64 a_c2, .int .i64 a_c3, .int .i64 a_c4] 29) := ⟨_, rfl⟩
  replace H := H b5 w6 hb2 hw3
  refine L_val (v := .pointer (some ⟨b5, 0, none⟩)) (y_box (ev_tv rfl rfl) rfl hb2 hw3) ?_
  refine L_val (v := .slice none 0 0) (y_assign ev_c) ?_
  refine l_nil ?_
  refine then_norm ?_
  refine hK1 _ _ ?_
  clear hK1
  refine c_seq ?_
  intro K4 hK4
  refine c_seq ?_
  intro K5 hK5
  refine c_region ?_
  refine L_val (v := .pointer a_q1) (y_move (ev_tv rfl rfl)) ?_
  refine L_call (y_call Try.call17 (map_ev1 (ev_tv rfl rfl)) ev_f) (Calls.mono H ?_)
  clear H
  rintro _ w8 ⟨x7, rfl, H⟩
  refine ⟨_, rfl, ?_⟩
  rcases Bool.eq_false_or_eq_true x7 with hb6 | hb6
  · replace H := H.1 hb6
    have hq7 : Value.bool (x7) = Value.bool true := congrArg Value.bool hb6
    refine L_val (v := .bool false) (y_not_t (ev_tv rfl hq7)) ?_
    refine l_nil ?_
    refine then_norm ?_
    refine hK5 _ _ ?_
    clear hK5
    refine cond_f (ev_tv rfl rfl) ?_
    refine c_skip ?_
    refine then_norm ?_
    refine hK4 _ _ ?_
    clear hK4
    refine c_seq ?_
    intro K8 hK8
    refine D_start Try.mixed rfl [6] ?_
    refine start_keep fun hS => ?_
    refine D_pure (i := 0) (v := .pointer a_q1) rfl (by kernel_rfl) (W_none rfl) (fun _ => y_move (ev_tv rfl rfl)) hS ?_
    intro hS
    obtain ⟨b10, o11, rfl, H⟩ := H
    refine D_pure (i := 1) (v := .pointer (some ⟨b10, o11, none⟩)) rfl (by kernel_rfl) (W_none rfl) (fun _ => y_nilCheck (ev_tv rfl rfl)) hS ?_
    intro hS
    refine D_pure (i := 2) (v := .pointer (some ⟨b10, o11, none⟩)) rfl (by kernel_rfl) (W_none rfl) (fun _ => Try.fa52_0 (ev_tv rfl rfl)) hS ?_
    intro hS
    obtain ⟨x12, hc9, H⟩ := H
    refine D_read (i := 3) (v := .map x12) rfl (by kernel_rfl) (W_none rfl) (fun wx => World.cell? wx ⟨b10, o11, none⟩ = some (.map x12)) hc9 (fun _ hcx => y_load Try.underlying49 rfl (ev_tv rfl rfl) hcx) hS ?_
    intro hS
    obtain ⟨x13, x14, x15, hc10, H⟩ := H
    refine D_read (i := 4) (v := .agg #[.int .i64 x13, .int .i64 x14, .int .i64 x15]) rfl (by kernel_rfl) (W_none rfl) (fun wx => CellsAt wx ⟨b5, 0, none⟩ [.int .i64 x13, .int .i64 x14, .int .i64 x15]) hc10 (fun _ hcx => y_loadAgg Try.underlying29 rfl Try.type29 rfl (ev_tv rfl rfl) hcx) hS ?_
    intro hS
    obtain ⟨x16, x16l, x16c, hc11, H⟩ := H
    refine D_read (i := 5) (v := .slice x16 x16l x16c) rfl (by kernel_rfl) (W_none rfl) (fun wx => (Instr.lookup 49 (.map x12) (.agg #[.int .i64 x13, .int .i64 x14, .int .i64 x15]) false).run Try.prog wx = .ok (.slice x16 x16l x16c) wx) hc11 (fun _ hcx => y_lookup (ev_tv rfl rfl) (ev_tv rfl rfl) hcx) hS ?_
    intro hS
    refine D_only (i := 6) (by kernel_rfl) rfl ?_
    refine O_call (i := 6) rfl (W_none rfl) (y_call Try.call20 (map_ev1 (ev_tv rfl rfl)) ev_f) (Calls.mono H ?_)
    clear H
    rintro _ w18 ⟨x17, x17l, x17c, rfl, H⟩
    refine ⟨_, rfl, ?_⟩
    obtain ⟨hs12, hs13, H⟩ := H
    refine and_keep (SS_off (by kernel_rfl) (SS_on hs12 (SS_on hs13 SS_nil))) fun hS => ?_
    refine D_pure (i := 7) (v := .slice x17 x17l x17c) rfl (by kernel_rfl) (W_none rfl) (fun _ => y_assign (ev_tv rfl rfl)) hS ?_
    intro hS
    refine D_done (by kernel_rfl) ?_
    refine then_norm ?_
    refine hK8 _ _ ?_
    clear hK8
    refine c_ret ?_
    exact body_1 rfl (ev_tv rfl rfl) H
  · replace H := H.2 hb6
    have hq7 : Value.bool (x7) = Value.bool false := congrArg Value.bool hb6
    refine L_val (v := .bool true) (y_not_f (ev_tv rfl hq7)) ?_
    refine l_nil ?_
    refine then_norm ?_
    refine hK5 _ _ ?_
    clear hK5
    refine cond_t (ev_tv rfl rfl) ?_
    refine c_seq ?_
    intro K14 hK14
    refine c_region ?_
    refine L_val (v := .slice none 0 0) (y_assign ev_c) ?_
    refine l_nil ?_
    refine then_norm ?_
    refine hK14 _ _ ?_
    clear hK14
    refine c_ret ?_
    refine then_ret ?_
    exact body_1 rfl (ev_tv rfl rfl) H

/-- (parapet/waitq.Queue).Wake -/
def Vc9 (a_q1 : Option Addr) (a_c2 : Int) (a_c3 : Int) (a_c4 : Int) (a_n5 : Int) (w : World) (R : Ending → World → Prop) : Prop :=
  (∀ (b6 : Nat) (w7 : World), b6 = World.heapSize w → w7 = World.alloc w (.cells #[.int .i64 a_c2, .int .i64 a_c3, .int .i64 a_c4] 29) → (∃ x8 : Int, ∃ x9 : Int, ∃ x10 : Int, CellsAt w7 ⟨b6, 0, none⟩ [.int .i64 x8, .int .i64 x9, .int .i64 x10] ∧ (Calls Try.prog 8 #[.pointer a_q1, .agg #[.int .i64 x8, .int .i64 x9, .int .i64 x10]] w7 fun e w12 => ∃ x11 : Option Addr, ∃ x11l : Nat, ∃ x11c : Nat, e = .returned (.slice x11 x11l x11c) ∧ (∃ I8 : Nat → Option Addr → Nat → Nat → Int → World → Prop, (∃ m, I8 m none 0 0 0 w12) ∧ ∀ (m16 : Nat) (v14 : Option Addr) (v14l : Nat) (v14c : Nat) (v15 : Int) (w17 : World), I8 m16 v14 v14l v14c v15 w17 → ((((v15 : Int) < ((x11l : Nat) : Int)) → (∃ (b18 o19 : Nat), x11 = some ⟨b18, o19, none⟩ ∧ ((0 : Int) ≤ v15 ∧ v15 < ((x11l : Nat) : Int) ∧ (∃ x20 : Int, World.cell? w17 ⟨b18, o19 + (v15 : Int).toNat, none⟩ = some (.int .i64 x20) ∧ ((((a_n5 : Int) ≤ ((v14l : Nat) : Int)) → R (.returned (.slice v14 v14l v14c)) w17) ∧ ((¬ ((a_n5 : Int) ≤ ((v14l : Nat) : Int))) → (Calls Try.prog 10 #[.pointer a_q1, .int .i64 x20] w17 fun e w22 => ∃ x21 : Bool, e = .returned (.bool x21) ∧ (∀ (b24 : Nat) (w25 : World), b24 = World.heapSize w22 → w25 = World.alloc w22 (.cells #[.int .i64 x20] 3) → (∃ x27 : Option Addr, ∃ x27l : Nat, ∃ x27c : Nat, ∃ w26 : World, (Builtin.append_ #[34, 34] 34 #[.slice v14 v14l v14c, .slice (some ⟨b24, 0, none⟩) 1 1]).run Try.prog w25 = .ok (.slice x27 x27l x27c) w26 ∧ (∀ r28 : Int, r28 = IntKind.wrap .i64 (v15 + 1) → (∃ m29, m29 < m16 ∧ I8 m29 x27 x27l x27c r28 w26))))))))))) ∧ ((¬ ((v15 : Int) < ((x11l : Nat) : Int))) → R (.returned (.slice v14 v14l v14c)) w17))))))

theorem vc9 {a_q1 : Option Addr} {a_c2 : Int} {a_c3 : Int} {a_c4 : Int} {a_n5 : Int} {w : World} {R : Ending → World → Prop} (H : Vc9 a_q1 a_c2 a_c3 a_c4 a_n5 w R) : Calls Try.prog 9 #[.pointer a_q1, .agg #[.int .i64 a_c2, .int .i64 a_c3, .int .i64 a_c4], .int .i64 a_n5] w R := by
  unfold Vc9 at H
  refine calls_start [.pointer a_q1, .agg #[.int .i64 a_c2, .int .i64 a_c3, .int .i64 a_c4], .int .i64 a_n5] Try.func9 rfl Try.ntmps9 rfl ?_
  refine c_seq ?_
  intro K1 hK1
  refine c_region ?_
  obtain ⟨b6, hb2⟩ : ∃ b6 : Nat, b6 = World.heapSize w := ⟨_, rfl⟩
  obtain ⟨w7, hw3⟩ : ∃ w7 : World, w7 = World.alloc w (.cells #[.int .i64 a_c2, .int .i64 a_c3, .int .i64 a_c4] 29) := ⟨_, rfl⟩
  replace H := H b6 w7 hb2 hw3
  refine L_val (v := .pointer (some ⟨b6, 0, none⟩)) (y_box (ev_tv rfl rfl) rfl hb2 hw3) ?_
  refine L_val (v := .slice none 0 0) (y_assign ev_c) ?_
  refine l_nil ?_
  refine then_norm ?_
  refine hK1 _ _ ?_
  clear hK1
  refine c_seq ?_
  intro K4 hK4
  refine c_region ?_
  refine L_val (v := .slice none 0 0) (y_assign ev_c) ?_
  refine l_nil ?_
  refine then_norm ?_
  refine hK4 _ _ ?_
  clear hK4
  refine c_seq ?_
  intro K5 hK5
  refine c_seq ?_
  intro K6 hK6
  refine c_region ?_
  refine L_val (v := .pointer a_q1) (y_move (ev_tv rfl rfl)) ?_
  obtain ⟨x8, x9, x10, hc7, H⟩ := H
  refine L_val (v := .agg #[.int .i64 x8, .int .i64 x9, .int .i64 x10]) (y_loadAgg Try.underlying29 rfl Try.type29 rfl (ev_tv rfl rfl) hc7) ?_
  refine L_call (y_call Try.call8 (map_ev2 (ev_tv rfl rfl) (ev_tv rfl rfl)) ev_f) (Calls.mono H ?_)
  clear H
  rintro _ w12 ⟨x11, x11l, x11c, rfl, H⟩
  refine ⟨_, rfl, ?_⟩
  refine L_val (v := .int .i64 ((x11l : Nat) : Int)) (y_len Try.underlying34 rfl (map_ev1 (ev_tv rfl rfl))) ?_
  refine L_val (v := .int .i64 0) (y_move ev_c) ?_
  refine l_nil ?_
  refine then_norm ?_
  refine hK6 _ _ ?_
  clear hK6
  refine c_block ?_
  obtain ⟨I8, ⟨m12, HI13⟩, H⟩ := H
  refine loop_fr ([(7, 7), (9, 9), (14, 29)]) (fun m ff ww => ∃ (v14 : Option Addr) (v14l : Nat) (v14c : Nat) (v15 : Int), ff 7 = (.slice v14 v14l v14c : Value) ∧ ff 14 = (.int .i64 v15 : Value) ∧ I8 m v14 v14l v14c v15 ww) m12 ⟨none, 0, 0, 0, rfl, rfl, HI13⟩ ?_
  rintro m16 f9 w17 hag10 ⟨v14, v14l, v14c, v15, hs14, hs15, HI11⟩
  replace H := H m16 v14 v14l v14c v15 w17 HI11
  refine c_seq ?_
  intro K16 hK16
  refine c_region ?_
  refine L_val (v := .bool (decide ((v15 : Int) < ((x11l : Nat) : Int)))) (y_lss (ev_tv rfl hs15) (ev_tv rfl ((hag10 13 rfl).trans rfl))) ?_
  refine l_nil ?_
  refine then_norm ?_
  refine hK16 _ _ ?_
  clear hK16
  refine c_seq ?_
  intro K17 hK17
  rcases (Decidable.em ((v15 : Int) < ((x11l : Nat) : Int))) with hb18 | hb18
  · replace H := H.1 hb18
    have hq19 : Value.bool (decide ((v15 : Int) < ((x11l : Nat) : Int))) = Value.bool true := congrArg Value.bool (decide_eq_true hb18)
    refine cond_t (ev_tv rfl hq19) ?_
    refine c_skip ?_
    refine then_norm ?_
    refine hK17 _ _ ?_
    clear hK17
    refine c_seq ?_
    intro K20 hK20
    refine c_block ?_
    refine c_seq ?_
    intro K21 hK21
    refine c_region ?_
    obtain ⟨b18, o19, rfl, H⟩ := H
    obtain ⟨hi22, hi23, H⟩ := H
    refine L_val (v := .pointer (some ⟨b18, o19 + (v15 : Int).toNat, none⟩)) (y_ix1 Try.underlying34 Try.type3 rfl (ev_tv rfl ((hag10 12 rfl).trans rfl)) (ev_tv rfl hs15) hi22 hi23) ?_
    obtain ⟨x20, hc24, H⟩ := H
    refine L_val (v := .int .i64 x20) (y_load Try.underlying3 rfl (ev_tv rfl rfl) hc24) ?_
    refine L_val (v := .int .i64 x20) (y_assign (ev_tv rfl rfl)) ?_
    refine l_nil ?_
    refine then_norm ?_
    refine hK21 _ _ ?_
    clear hK21
    refine c_seq ?_
    intro K25 hK25
    refine c_seq ?_
    intro K26 hK26
    refine c_region ?_
    refine L_val (v := .slice v14 v14l v14c) (y_move (ev_tv rfl hs14)) ?_
    refine L_val (v := .int .i64 ((v14l : Nat) : Int)) (y_len Try.underlying34 rfl (map_ev1 (ev_tv rfl rfl))) ?_
    refine L_val (v := .int .i64 a_n5) (y_move (ev_tv rfl ((hag10 2 rfl).trans rfl))) ?_
    refine L_val (v := .bool (decide ((a_n5 : Int) ≤ ((v14l : Nat) : Int)))) (y_geq (ev_tv rfl rfl) (ev_tv rfl rfl)) ?_
    refine l_nil ?_
    refine then_norm ?_
    refine hK26 _ _ ?_
    clear hK26
    rcases (Decidable.em ((a_n5 : Int) ≤ ((v14l : Nat) : Int))) with hb27 | hb27
    · replace H := H.1 hb27
      have hq28 : Value.bool (decide ((a_n5 : Int) ≤ ((v14l : Nat) : Int))) = Value.bool true := congrArg Value.bool (decide_eq_true hb27)
      refine cond_t (ev_tv rfl hq28) ?_
      refine c_exit ?_
      refine then_exit ?_
      refine block_miss rfl ?_
      refine then_exit ?_
      refine then_exit ?_
      refine block_hit ?_
      refine then_norm ?_
      refine hK5 _ _ ?_
      clear hK5
      refine c_seq ?_
      intro K29 hK29
      refine c_region ?_
      refine L_val (v := .slice v14 v14l v14c) (y_move (ev_tv rfl hs14)) ?_
      refine L_val (v := .slice v14 v14l v14c) (y_assign (ev_tv rfl rfl)) ?_
      refine l_nil ?_
      refine then_norm ?_
      refine hK29 _ _ ?_
      clear hK29
      refine c_ret ?_
      exact body_1 rfl (ev_tv rfl rfl) H
    · replace H := H.2 hb27
      have hq28 : Value.bool (decide ((a_n5 : Int) ≤ ((v14l : Nat) : Int))) = Value.bool false := congrArg Value.bool (decide_eq_false hb27)
      refine cond_f (ev_tv rfl hq28) ?_
      refine c_skip ?_
      refine then_norm ?_
      refine hK25 _ _ ?_
      clear hK25
      refine c_seq ?_
      intro K30 hK30
      refine c_region ?_
      refine L_val (v := .pointer a_q1) (y_move (ev_tv rfl ((hag10 0 rfl).trans rfl))) ?_
      refine L_val (v := .int .i64 x20) (y_move (ev_tv rfl rfl)) ?_
      refine L_call (y_call Try.call10 (map_ev2 (ev_tv rfl rfl) (ev_tv rfl rfl)) ev_f) (Calls.mono H ?_)
      clear H
      rintro _ w22 ⟨x21, rfl, H⟩
      refine ⟨_, rfl, ?_⟩
      refine l_nil ?_
      refine then_norm ?_
      refine hK30 _ _ ?_
      clear hK30
      refine c_region ?_
      refine L_val (v := .slice v14 v14l v14c) (y_move (ev_tv rfl hs14)) ?_
      refine L_val (v := .int .i64 x20) (y_move (ev_tv rfl rfl)) ?_
      obtain ⟨b24, hb31⟩ : ∃ b24 : Nat, b24 = World.heapSize w22 := ⟨_, rfl⟩
      obtain ⟨w25, hw32⟩ : ∃ w25 : World, w25 = World.alloc w22 (.cells #[.int .i64 x20] 3) := ⟨_, rfl⟩
      replace H := H b24 w25 hb31 hw32
      refine L_val (v := .slice (some ⟨b24, 0, none⟩) 1 1) (y_buildSlice (parts_ev1 (ev_tv rfl rfl)) hb31 hw32 (by kernel_rfl)) ?_
      obtain ⟨x27, x27l, x27c, w26, hc33, H⟩ := H
      refine L_val (v := .slice x27 x27l x27c) (y_bi_append (map_ev2 (ev_tv rfl rfl) (ev_tv rfl rfl)) hc33) ?_
      refine L_val (v := .slice x27 x27l x27c) (y_assign (ev_tv rfl rfl)) ?_
      refine l_nil ?_
      refine block_norm ?_
      refine then_norm ?_
      refine hK20 _ _ ?_
      clear hK20
      refine c_region ?_
      obtain ⟨r28, hr34⟩ : ∃ r28 : Int, r28 = IntKind.wrap .i64 (v15 + 1) := ⟨_, rfl⟩
      replace H := H r28 hr34
      refine L_val (v := .int .i64 r28) (y_add (ev_tv rfl hs15) ev_c hr34) ?_
      refine L_val (v := .int .i64 r28) (y_move (ev_tv rfl rfl)) ?_
      refine l_nil ?_
      refine then_norm ?_
      obtain ⟨m29, hm35, H⟩ := H
      exact ⟨_, rfl, (by repeat (first | exact agree_refl | exact hag10 | refine agree_upd rfl ?_ | refine agree_via hag10 rfl ?_)), m29, hm35, _, _, _, _, rfl, rfl, H⟩
  · replace H := H.2 hb18
    have hq19 : Value.bool (decide ((v15 : Int) < ((x11l : Nat) : Int))) = Value.bool false := congrArg Value.bool (decide_eq_false hb18)
    refine cond_f (ev_tv rfl hq19) ?_
    refine c_exit ?_
    refine then_exit ?_
    refine then_exit ?_
    refine block_hit ?_
    refine then_norm ?_
    refine hK5 _ _ ?_
    clear hK5
    refine c_seq ?_
    intro K36 hK36
    refine c_region ?_
    refine L_val (v := .slice v14 v14l v14c) (y_move (ev_tv rfl hs14)) ?_
    refine L_val (v := .slice v14 v14l v14c) (y_assign (ev_tv rfl rfl)) ?_
    refine l_nil ?_
    refine then_norm ?_
    refine hK36 _ _ ?_
    clear hK36
    refine c_ret ?_
    exact body_1 rfl (ev_tv rfl rfl) H

/-- (parapet/waitq.Queue).Cancel -/
def Vc10 (a_q1 : Option Addr) (a_tid2 : Int) (w : World) (R : Ending → World → Prop) : Prop :=
  (Calls Try.prog 17 #[.pointer a_q1] w fun e w4 => ∃ x3 : Bool, e = .returned (.bool x3) ∧ (((x3 = true) → (∃ (b6 o7 : Nat), a_q1 = some ⟨b6, o7, none⟩ ∧ (∃ x8 : Option Nat, World.cell? w4 ⟨b6, o7 + 1, none⟩ = some (.map x8) ∧ (∃ x9 : Option Addr, ∃ x9l : Nat, ∃ x9c : Nat, ∃ ok10 : Bool, (Instr.lookup 50 (.map x8) (.int .i64 a_tid2) true).run Try.prog w4 = .ok (.tuple #[.slice x9 x9l x9c, .bool ok10]) w4 ∧ (∃ J9 : World → Prop, (∀  (w11 : World), J9  w11 → (∃ x12 : Option Nat, World.cell? w11 ⟨b6, o7 + 1, none⟩ = some (.map x12) ∧ (∃ w13 : World, (Builtin.delete_ #[50, 3] 0 #[.map x12, .int .i64 a_tid2]).run Try.prog w11 = .ok (.tuple #[]) w13 ∧ R (.returned (.bool ok10)) w13))) ∧ (∃ I20 : Nat → Int → World → Prop, (∃ m, I20 m 0 w4) ∧ ∀ (m15 : Nat) (v14 : Int) (w16 : World), I20 m15 v14 w16 → ((((v14 : Int) < ((x9l : Nat) : Int)) → (∃ (b17 o18 : Nat), x9 = some ⟨b17, o18, none⟩ ∧ ((0 : Int) ≤ v14 ∧ v14 < ((x9l : Nat) : Int) ∧ (∃ x19 : Int, ∃ x20 : Int, ∃ x21 : Int, CellsAt w16 ⟨b17, o18 + (v14 : Int).toNat * 3, none⟩ [.int .i64 x19, .int .i64 x20, .int .i64 x21] ∧ (∀ (b22 : Nat) (w23 : World), b22 = World.heapSize w16 → w23 = World.alloc w16 (.cells #[.int .i64 0, .int .i64 0, .int .i64 0] 29) → ((∀ j, j < 3 → (World.cell? w23 (Addr.add ⟨b22, 0, none⟩ j)).isSome = true ∧ World.frozen? w23 (Addr.add ⟨b22, 0, none⟩ j) = false) ∧ ∀ w24 : World, w24 = putCells w23 ⟨b22, 0, none⟩ [.int .i64 x19, .int .i64 x20, .int .i64 x21] 0 → (∃ x25 : Int, ∃ x26 : Int, ∃ x27 : Int, CellsAt w24 ⟨b22, 0, none⟩ [.int .i64 x25, .int .i64 x26, .int .i64 x27] ∧ (Calls Try.prog 21 #[.pointer (some ⟨b6, o7, none⟩), .int .i64 a_tid2, .agg #[.int .i64 x25, .int .i64 x26, .int .i64 x27]] w24 fun e w28 => e = .returned (.tuple #[]) ∧ (∀ r30 : Int, r30 = IntKind.wrap .i64 (v14 + 1) → (∃ m31, m31 < m15 ∧ I20 m31 r30 w28)))))))))) ∧ ((¬ ((v14 : Int) < ((x9l : Nat) : Int))) → J9  w16)))))))) ∧ ((x3 = false) → R (.returned (.bool false)) w4)))

theorem vc10 {a_q1 : Option Addr} {a_tid2 : Int} {w : World} {R : Ending → World → Prop} (H : Vc10 a_q1 a_tid2 w R) : Calls Try.prog 10 #[.pointer a_q1, .int .i64 a_tid2] w R := by
  unfold Vc10 at H
  refine calls_start [.pointer a_q1, .int .i64 a_tid2] Try.func10 rfl Try.ntmps10 rfl ?_
  refine c_seq ?_
  intro K1 hK1
  refine c_region ?_
  refine L_val (v := .bool false) (y_assign ev_c) ?_
  refine l_nil ?_
  refine then_norm ?_
  refine hK1 _ _ ?_
  clear hK1
  refine c_seq ?_
  intro K2 hK2
  refine c_seq ?_
  intro K3 hK3
  refine c_region ?_
  refine L_val (v := .pointer a_q1) (y_move (ev_tv rfl rfl)) ?_
  refine L_call (y_call Try.call17 (map_ev1 (ev_tv rfl rfl)) ev_f) (Calls.mono H ?_)
  clear H
  rintro _ w4 ⟨x3, rfl, H⟩
  refine ⟨_, rfl, ?_⟩
  rcases Bool.eq_false_or_eq_true x3 with hb4 | hb4
  · replace H := H.1 hb4
    have hq5 : Value.bool (x3) = Value.bool true := congrArg Value.bool hb4
    refine L_val (v := .bool false) (y_not_t (ev_tv rfl hq5)) ?_
    refine l_nil ?_
    refine then_norm ?_
    refine hK3 _ _ ?_
    clear hK3
    refine cond_f (ev_tv rfl rfl) ?_
    refine c_skip ?_
    refine then_norm ?_
    refine hK2 _ _ ?_
    clear hK2
    refine c_seq ?_
    intro K6 hK6
    refine c_region ?_
    refine L_val (v := .pointer a_q1) (y_move (ev_tv rfl rfl)) ?_
    obtain ⟨b6, o7, rfl, H⟩ := H
    refine L_val (v := .pointer (some ⟨b6, o7, none⟩)) (y_nilCheck (ev_tv rfl rfl)) ?_
    refine L_val (v := .pointer (some ⟨b6, o7 + 1, none⟩)) (Try.fa52_1 (ev_tv rfl rfl)) ?_
    obtain ⟨x8, hc7, H⟩ := H
    refine L_val (v := .map x8) (y_load Try.underlying50 rfl (ev_tv rfl rfl) hc7) ?_
    refine L_val (v := .int .i64 a_tid2) (y_move (ev_tv rfl rfl)) ?_
    obtain ⟨x9, x9l, x9c, ok10, hc8, H⟩ := H
    refine L_val (v := .tuple #[.slice x9 x9l x9c, .bool ok10]) (y_lookup (ev_tv rfl rfl) (ev_tv rfl rfl) hc8) ?_
    refine L_val (v := .tuple #[.slice x9 x9l x9c, .bool ok10]) (y_move (ev_tv rfl rfl)) ?_
    refine L_val (v := .slice x9 x9l x9c) (y_extract (ev_tv rfl rfl) rfl) ?_
    refine L_val (v := .bool ok10) (y_extract (ev_tv rfl rfl) rfl) ?_
    refine L_val (v := .slice x9 x9l x9c) (y_assign (ev_tv rfl rfl)) ?_
    refine L_val (v := .bool ok10) (y_assign (ev_tv rfl rfl)) ?_
    refine l_nil ?_
    refine then_norm ?_
    refine hK6 _ _ ?_
    clear hK6
    obtain ⟨J9, hJ10, H⟩ := H
    refine c_seqJ [(8, 8), (21, 31)] (fun ff ww => J9  ww) ?_ ?_
    · clear hJ10
      intro K14 hK14
      refine c_seq ?_
      intro K19 hK19
      refine c_region ?_
      refine L_val (v := .slice x9 x9l x9c) (y_move (ev_tv rfl rfl)) ?_
      refine L_val (v := .int .i64 ((x9l : Nat) : Int)) (y_len Try.underlying27 rfl (map_ev1 (ev_tv rfl rfl))) ?_
      refine L_val (v := .int .i64 0) (y_move ev_c) ?_
      refine l_nil ?_
      refine then_norm ?_
      refine hK19 _ _ ?_
      clear hK19
      refine c_block ?_
      obtain ⟨I20, ⟨m24, HI25⟩, H⟩ := H
      refine loop_fr ([(8, 8), (23, 31)]) (fun m ff ww => ∃ (v14 : Int), ff 23 = (.int .i64 v14 : Value) ∧ I20 m v14 ww) m24 ⟨0, rfl, HI25⟩ ?_
      rintro m15 f21 w16 hag22 ⟨v14, hs26, HI23⟩
      replace H := H m15 v14 w16 HI23
      refine c_seq ?_
      intro K27 hK27
      refine c_region ?_
      refine L_val (v := .bool (decide ((v14 : Int) < ((x9l : Nat) : Int)))) (y_lss (ev_tv rfl hs26) (ev_tv rfl ((hag22 22 rfl).trans rfl))) ?_
      refine l_nil ?_
      refine then_norm ?_
      refine hK27 _ _ ?_
      clear hK27
      refine c_seq ?_
      intro K28 hK28
      rcases (Decidable.em ((v14 : Int) < ((x9l : Nat) : Int))) with hb29 | hb29
      · replace H := H.1 hb29
        have hq30 : Value.bool (decide ((v14 : Int) < ((x9l : Nat) : Int))) = Value.bool true := congrArg Value.bool (decide_eq_true hb29)
        refine cond_t (ev_tv rfl hq30) ?_
        refine c_skip ?_
        refine then_norm ?_
        refine hK28 _ _ ?_
        clear hK28
        refine c_seq ?_
        intro K31 hK31
        refine c_block ?_
        refine c_seq ?_
        intro K32 hK32
        refine c_region ?_
        obtain ⟨b17, o18, rfl, H⟩ := H
        obtain ⟨hi33, hi34, H⟩ := H
        refine L_val (v := .pointer (some ⟨b17, o18 + (v14 : Int).toNat * 3, none⟩)) (y_ix Try.underlying27 Try.type29 rfl (ev_tv rfl ((hag22 21 rfl).trans rfl)) (ev_tv rfl hs26) hi33 hi34) ?_
        obtain ⟨x19, x20, x21, hc35, H⟩ := H
        refine L_val (v := .agg #[.int .i64 x19, .int .i64 x20, .int .i64 x21]) (y_loadAgg Try.underlying29 rfl Try.type29 rfl (ev_tv rfl rfl) hc35) ?_
        obtain ⟨b22, hb36⟩ : ∃ b22 : Nat, b22 = World.heapSize w16 := ⟨_, rfl⟩
        obtain ⟨w23, hw37⟩ : ∃ w23 : World, w23 = World.alloc w16 (.cells #[.int .i64 0, .int .i64 0, .int .i64 0] 29) := ⟨_, rfl⟩
        replace H := H b22 w23 hb36 hw37
        refine L_val (v := .pointer (some ⟨b22, 0, none⟩)) (y_alloc Try.type29 rfl rfl hb36 hw37) ?_
        obtain ⟨hc38, H⟩ := H
        obtain ⟨w24, hw40⟩ : ∃ w24 : World, w24 = putCells w23 ⟨b22, 0, none⟩ [.int .i64 x19, .int .i64 x20, .int .i64 x21] 0 := ⟨_, rfl⟩
        replace H := H w24 hw40
        refine L_skip (y_storeAgg Try.type29 rfl (by intro v hv; simp only [List.mem_cons, List.not_mem_nil, or_false] at hv; rcases hv with rfl | rfl | rfl <;> rfl) (ev_tv rfl rfl) (ev_tv rfl rfl) hc38 hw40) ?_
        refine l_nil ?_
        refine then_norm ?_
        refine hK32 _ _ ?_
        clear hK32
        refine c_region ?_
        refine L_val (v := .pointer (some ⟨b6, o7, none⟩)) (y_move (ev_tv rfl ((hag22 0 rfl).trans rfl))) ?_
        refine L_val (v := .int .i64 a_tid2) (y_move (ev_tv rfl ((hag22 1 rfl).trans rfl))) ?_
        obtain ⟨x25, x26, x27, hc41, H⟩ := H
        refine L_val (v := .agg #[.int .i64 x25, .int .i64 x26, .int .i64 x27]) (y_loadAgg Try.underlying29 rfl Try.type29 rfl (ev_tv rfl rfl) hc41) ?_
        refine L_call (y_call Try.call21 (map_ev3 (ev_tv rfl rfl) (ev_tv rfl rfl) (ev_tv rfl rfl)) ev_f) (Calls.mono H ?_)
        clear H
        rintro _ w28 ⟨rfl, H⟩
        refine ⟨_, rfl, ?_⟩
        refine l_nil ?_
        refine block_norm ?_
        refine then_norm ?_
        refine hK31 _ _ ?_
        clear hK31
        refine c_region ?_
        obtain ⟨r30, hr42⟩ : ∃ r30 : Int, r30 = IntKind.wrap .i64 (v14 + 1) := ⟨_, rfl⟩
        replace H := H r30 hr42
        refine L_val (v := .int .i64 r30) (y_add (ev_tv rfl hs26) ev_c hr42) ?_
        refine L_val (v := .int .i64 r30) (y_move (ev_tv rfl rfl)) ?_
        refine l_nil ?_
        refine then_norm ?_
        obtain ⟨m31, hm43, H⟩ := H
        exact ⟨_, rfl, (by repeat (first | exact agree_refl | exact hag22 | refine agree_upd rfl ?_ | refine agree_via hag22 rfl ?_)), m31, hm43, _, rfl, H⟩
      · replace H := H.2 hb29
        have hq30 : Value.bool (decide ((v14 : Int) < ((x9l : Nat) : Int))) = Value.bool false := congrArg Value.bool (decide_eq_false hb29)
        refine cond_f (ev_tv rfl hq30) ?_
        refine c_exit ?_
        refine then_exit ?_
        refine then_exit ?_
        refine block_hit ?_
        refine then_norm ?_
        exact hK14 _ _ (by repeat (first | exact agree_refl | exact hag22 | refine agree_upd rfl ?_ | refine agree_via hag22 rfl ?_)) H
    · clear H
      intro f11 w11 hag12 HJ13
      have H := hJ10  w11 HJ13
      clear hJ10
      refine c_seq ?_
      intro K15 hK15
      refine c_region ?_
      refine L_val (v := .pointer (some ⟨b6, o7, none⟩)) (y_move (ev_tv rfl ((hag12 0 rfl).trans rfl))) ?_
      refine L_val (v := .pointer (some ⟨b6, o7, none⟩)) (y_nilCheck (ev_tv rfl rfl)) ?_
      refine L_val (v := .pointer (some ⟨b6, o7 + 1, none⟩)) (Try.fa52_1 (ev_tv rfl rfl)) ?_
      obtain ⟨x12, hc16, H⟩ := H
      refine L_val (v := .map x12) (y_load Try.underlying50 rfl (ev_tv rfl rfl) hc16) ?_
      refine L_val (v := .int .i64 a_tid2) (y_move (ev_tv rfl ((hag12 1 rfl).trans rfl))) ?_
      obtain ⟨w13, hc17, H⟩ := H
      refine L_valn (v := .tuple #[]) (y_bi_delete (map_ev2 (ev_tv rfl rfl) (ev_tv rfl rfl)) hc17) ?_
      refine l_nil ?_
      refine then_norm ?_
      refine hK15 _ _ ?_
      clear hK15
      refine c_seq ?_
      intro K18 hK18
      refine c_region ?_
      refine L_val (v := .bool ok10) (y_move (ev_tv rfl ((hag12 6 rfl).trans rfl))) ?_
      refine L_val (v := .bool ok10) (y_assign (ev_tv rfl rfl)) ?_
      refine l_nil ?_
      refine then_norm ?_
      refine hK18 _ _ ?_
      clear hK18
      refine c_ret ?_
      exact body_1 rfl (ev_tv rfl rfl) H
  · replace H := H.2 hb4
    have hq5 : Value.bool (x3) = Value.bool false := congrArg Value.bool hb4
    refine L_val (v := .bool true) (y_not_f (ev_tv rfl hq5)) ?_
    refine l_nil ?_
    refine then_norm ?_
    refine hK3 _ _ ?_
    clear hK3
    refine cond_t (ev_tv rfl rfl) ?_
    refine c_seq ?_
    intro K44 hK44
    refine c_region ?_
    refine L_val (v := .bool false) (y_assign ev_c) ?_
    refine l_nil ?_
    refine then_norm ?_
    refine hK44 _ _ ?_
    clear hK44
    refine c_ret ?_
    refine then_ret ?_
    exact body_1 rfl (ev_tv rfl rfl) H

/-- (parapet/waitq.Queue).Move -/
def Vc11 (a_q1 : Option Addr) (a_from2 : Int) (a_from3 : Int) (a_from4 : Int) (a_to5 : Int) (a_to6 : Int) (a_to7 : Int) (a_n8 : Int) (w : World) (R : Ending → World → Prop) : Prop :=
  (∀ (b9 : Nat) (w10 : World), b9 = World.heapSize w → w10 = World.alloc w (.cells #[.int .i64 a_from2, .int .i64 a_from3, .int .i64 a_from4] 29) → (∀ (b11 : Nat) (w12 : World), b11 = World.heapSize w10 → w12 = World.alloc w10 (.cells #[.int .i64 a_to5, .int .i64 a_to6, .int .i64 a_to7] 29) → (∃ x13 : Int, ∃ x14 : Int, ∃ x15 : Int, CellsAt w12 ⟨b9, 0, none⟩ [.int .i64 x13, .int .i64 x14, .int .i64 x15] ∧ (∃ x16 : Int, ∃ x17 : Int, ∃ x18 : Int, CellsAt w12 ⟨b11, 0, none⟩ [.int .i64 x16, .int .i64 x17, .int .i64 x18] ∧ (∃ q19 : Bool, (∀ w' : World, (eqGuard .eql 29 (.tmp 12) (.tmp 13) (.agg #[.int .i64 x13, .int .i64 x14, .int .i64 x15]) (.agg #[.int .i64 x16, .int .i64 x17, .int .i64 x18])).run Try.prog w' = .ok () w') ∧ (∀ w' : World, (binOp .eql 29 (.agg #[.int .i64 x13, .int .i64 x14, .int .i64 x15]) (.agg #[.int .i64 x16, .int .i64 x17, .int .i64 x18])).run Try.prog w' = .ok (.bool q19) w') ∧ (((q19 = true) → R (.returned (.int .i64 0)) w12) ∧ ((q19 = false) → (∃ x20 : Int, ∃ x21 : Int, ∃ x22 : Int, CellsAt w12 ⟨b9, 0, none⟩ [.int .i64 x20, .int .i64 x21, .int .i64 x22] ∧ (Calls Try.prog 8 #[.pointer a_q1, .agg #[.int .i64 x20, .int .i64 x21, .int .i64 x22]] w12 fun e w24 => ∃ x23 : Option Addr, ∃ x23l : Nat, ∃ x23c : Nat, e = .returned (.slice x23 x23l x23c) ∧ (∃ I19 : Nat → Int → Int → World → Prop, (∃ m, I19 m 0 0 w24) ∧ ∀ (m28 : Nat) (v26 : Int) (v27 : Int) (w29 : World), I19 m28 v26 v27 w29 → ((((v27 : Int) < ((x23l : Nat) : Int)) → (∃ (b30 o31 : Nat), x23 = some ⟨b30, o31, none⟩ ∧ ((0 : Int) ≤ v27 ∧ v27 < ((x23l : Nat) : Int) ∧ (∃ x32 : Int, World.cell? w29 ⟨b30, o31 + (v27 : Int).toNat, none⟩ = some (.int .i64 x32) ∧ ((((a_n8 : Int) ≤ v26) → R (.returned (.int .i64 v26)) w29) ∧ ((¬ ((a_n8 : Int) ≤ v26)) → (∃ (b33 o34 : Nat), a_q1 = some ⟨b33, o34, none⟩ ∧ (∃ x35 : Option Nat, World.cell? (w29.drew) ⟨b33, o34 + 1, none⟩ = some (.map x35) ∧ (∃ x36 : Option Addr, ∃ x36l : Nat, ∃ x36c : Nat, (Instr.lookup 50 (.map x35) (.int .i64 x32) false).run Try.prog (w29.drew) = .ok (.slice x36 x36l x36c) (w29.drew) ∧ (∃ x37 : Int, ∃ x38 : Int, ∃ x39 : Int, CellsAt (w29.drew) ⟨b11, 0, none⟩ [.int .i64 x37, .int .i64 x38, .int .i64 x39] ∧ (Calls Try.prog 18 #[.slice x36 x36l x36c, .agg #[.int .i64 x37, .int .i64 x38, .int .i64 x39]] (w29.drew) fun e w41 => ∃ x40 : Bool, e = .returned (.bool x40) ∧ (World.cell? w41 ⟨b33, o34 + 1, none⟩ = some (.map x35) ∧ (((x40 = true) → (∀ r42 : Int, r42 = IntKind.wrap .i64 (v27 + 1) → (∃ m43, m43 < m28 ∧ I19 m43 v26 r42 w41))) ∧ ((x40 = false) → (∃ x44 : Int, ∃ x45 : Int, ∃ x46 : Int, CellsAt w41 ⟨b9, 0, none⟩ [.int .i64 x44, .int .i64 x45, .int .i64 x46] ∧ (Calls Try.prog 21 #[.pointer (some ⟨b33, o34, none⟩), .int .i64 x32, .agg #[.int .i64 x44, .int .i64 x45, .int .i64 x46]] w41 fun e w47 => e = .returned (.tuple #[]) ∧ (∃ x49 : Option Nat, World.cell? (w47.drew) ⟨b33, o34 + 1, none⟩ = some (.map x49) ∧ (∃ x50 : Option Addr, ∃ x50l : Nat, ∃ x50c : Nat, (Instr.lookup 50 (.map x49) (.int .i64 x32) false).run Try.prog (w47.drew) = .ok (.slice x50 x50l x50c) (w47.drew) ∧ (∃ x51 : Option Nat, World.cell? (w47.drew) ⟨b33, o34 + 1, none⟩ = some (.map x51) ∧ (∃ x52 : Option Addr, ∃ x52l : Nat, ∃ x52c : Nat, (Instr.lookup 50 (.map x51) (.int .i64 x32) false).run Try.prog (w47.drew) = .ok (.slice x52 x52l x52c) (w47.drew) ∧ (∃ x53 : Int, ∃ x54 : Int, ∃ x55 : Int, CellsAt (w47.drew) ⟨b9, 0, none⟩ [.int .i64 x53, .int .i64 x54, .int .i64 x55] ∧ (∃ x56 : Int, ∃ x57 : Int, ∃ x58 : Int, CellsAt (w47.drew) ⟨b11, 0, none⟩ [.int .i64 x56, .int .i64 x57, .int .i64 x58] ∧ (Calls Try.prog 22 #[.slice x52 x52l x52c, .agg #[.int .i64 x53, .int .i64 x54, .int .i64 x55]] (w47.drew) fun e w60 => ∃ x59 : Int, e = .returned (.int .i64 x59) ∧ (CellsAt w60 ⟨b11, 0, none⟩ [.int .i64 x56, .int .i64 x57, .int .i64 x58] ∧ World.cell? w60 ⟨b33, o34 + 1, none⟩ = some (.map x51) ∧ (Instr.lookup 50 (.map x49) (.int .i64 x32) false).run Try.prog w60 = .ok (.slice x50 x50l x50c) w60 ∧ World.cell? w60 ⟨b33, o34 + 1, none⟩ = some (.map x49) ∧ (∃ (b61 o62 : Nat), x50 = some ⟨b61, o62, none⟩ ∧ ((0 : Int) ≤ x59 ∧ x59 < ((x50l : Nat) : Int) ∧ ((∀ j, j < 3 → (World.cell? w60 (Addr.add ⟨b61, o62 + (x59 : Int).toNat * 3, none⟩ j)).isSome = true ∧ World.frozen? w60 (Addr.add ⟨b61, o62 + (x59 : Int).toNat * 3, none⟩ j) = false) ∧ ∀ w63 : World, w63 = putCells w60 ⟨b61, o62 + (x59 : Int).toNat * 3, none⟩ [.int .i64 x56, .int .i64 x57, .int .i64 x58] 0 → (∃ x64 : Option Nat, World.cell? (w63.drew) ⟨b33, o34, none⟩ = some (.map x64) ∧ (∃ x65 : Int, ∃ x66 : Int, ∃ x67 : Int, CellsAt (w63.drew) ⟨b11, 0, none⟩ [.int .i64 x65, .int .i64 x66, .int .i64 x67] ∧ (∀ (b68 : Nat) (w69 : World), b68 = World.heapSize (w63.drew) → w69 = World.alloc (w63.drew) (.cells #[.int .i64 x32] 3) → (CellsAt w69 ⟨b11, 0, none⟩ [.int .i64 x65, .int .i64 x66, .int .i64 x67] ∧ World.cell? w69 ⟨b33, o34, none⟩ = some (.map x64) ∧ (∃ x70 : Option Addr, ∃ x70l : Nat, ∃ x70c : Nat, ∃ s71 : Int, ∃ w72 : World, (Instr.mapEntry 49 (.map x64) (.agg #[.int .i64 x65, .int .i64 x66, .int .i64 x67])).run Try.prog w69 = .ok (.tuple #[.slice x70 x70l x70c, .int .i64 s71]) w72 ∧ (∃ x74 : Option Addr, ∃ x74l : Nat, ∃ x74c : Nat, ∃ w73 : World, (Builtin.append_ #[34, 34] 34 #[.slice x70 x70l x70c, .slice (some ⟨b68, 0, none⟩) 1 1]).run Try.prog w72 = .ok (.slice x74 x74l x74c) w73 ∧ (∃ w75 : World, (Instr.entryStore 49 (.map x64) (.int .i64 s71) (.slice x74 x74l x74c)).run Try.prog w73 = .ok () w75 ∧ (∀ r76 : Int, r76 = IntKind.wrap .i64 (v26 + 1) → (∀ r77 : Int, r77 = IntKind.wrap .i64 (v27 + 1) → (∃ m78, m78 < m28 ∧ I19 m78 r76 r77 w75))))))))))))))))))))))))))))))))))))) ∧ ((¬ ((v27 : Int) < ((x23l : Nat) : Int))) → R (.returned (.int .i64 v26)) w29))))))))))))

theorem vc11 {a_q1 : Option Addr} {a_from2 : Int} {a_from3 : Int} {a_from4 : Int} {a_to5 : Int} {a_to6 : Int} {a_to7 : Int} {a_n8 : Int} {w : World} {R : Ending → World → Prop} (H : Vc11 a_q1 a_from2 a_from3 a_from4 a_to5 a_to6 a_to7 a_n8 w R) : Calls Try.prog 11 #[.pointer a_q1, .agg #[.int .i64 a_from2, .int .i64 a_from3, .int .i64 a_from4], .agg #[.int .i64 a_to5, .int .i64 a_to6, .int .i64 a_to7], .int .i64 a_n8] w R := by
  unfold Vc11 at H
  refine calls_start [.pointer a_q1, .agg #[.int .i64 a_from2, .int .i64 a_from3, .int .i64 a_from4], .agg #[.int .i64 a_to5, .int .i64 a_to6, .int .i64 a_to7], .int .i64 a_n8] Try.func11 rfl Try.ntmps11 rfl ?_
  refine c_seq ?_
  intro K1 hK1
  refine c_region ?_
  obtain ⟨b9, hb2⟩ : ∃ b9 : Nat, b9 = World.heapSize w := ⟨_, rfl⟩
  obtain ⟨w10, hw3⟩ : ∃ w10 : World, w10 = World.alloc w (.cells #[.int .i64 a_from2, .int .i64 a_from3, .int .i64 a_from4] 29) := ⟨_, rfl⟩
  replace H := H b9 w10 hb2 hw3
  refine L_val (v := .pointer (some ⟨b9, 0, none⟩)) (y_box (ev_tv rfl rfl) rfl hb2 hw3) ?_
  obtain ⟨b11, hb4⟩ : ∃ b11 : Nat, b11 = World.heapSize w10 := ⟨_, rfl⟩
  obtain ⟨w12, hw5⟩ : ∃ w12 : World, w12 = World.alloc w10 (.cells #[.int .i64 a_to5, .int .i64 a_to6, .int .i64 a_to7] 29) := ⟨_, rfl⟩
  replace H := H b11 w12 hb4 hw5
  refine L_val (v := .pointer (some ⟨b11, 0, none⟩)) (y_box (ev_tv rfl rfl) rfl hb4 hw5) ?_
  refine L_val (v := .int .i64 0) (y_assign ev_c) ?_
  refine l_nil ?_
  refine then_norm ?_
  refine hK1 _ _ ?_
  clear hK1
  refine c_seq ?_
  intro K6 hK6
  refine c_seq ?_
  intro K7 hK7
  refine c_region ?_
  obtain ⟨x13, x14, x15, hc8, H⟩ := H
  refine L_val (v := .agg #[.int .i64 x13, .int .i64 x14, .int .i64 x15]) (y_loadAgg Try.underlying29 rfl Try.type29 rfl (ev_tv rfl rfl) hc8) ?_
  obtain ⟨x16, x17, x18, hc9, H⟩ := H
  refine L_val (v := .agg #[.int .i64 x16, .int .i64 x17, .int .i64 x18]) (y_loadAgg Try.underlying29 rfl Try.type29 rfl (ev_tv rfl rfl) hc9) ?_
  obtain ⟨q19, hg11, hc10, H⟩ := H
  refine L_val (v := .bool q19) (y_eqv (ev_tv rfl rfl) (ev_tv rfl rfl) (hg11 _) (hc10 _)) ?_
  refine l_nil ?_
  refine then_norm ?_
  refine hK7 _ _ ?_
  clear hK7
  rcases Bool.eq_false_or_eq_true q19 with hb12 | hb12
  · replace H := H.1 hb12
    have hq13 : Value.bool (q19) = Value.bool true := congrArg Value.bool hb12
    refine cond_t (ev_tv rfl hq13) ?_
    refine c_seq ?_
    intro K14 hK14
    refine c_region ?_
    refine L_val (v := .int .i64 0) (y_assign ev_c) ?_
    refine l_nil ?_
    refine then_norm ?_
    refine hK14 _ _ ?_
    clear hK14
    refine c_ret ?_
    refine then_ret ?_
    exact body_1 rfl (ev_tv rfl rfl) H
  · replace H := H.2 hb12
    have hq13 : Value.bool (q19) = Value.bool false := congrArg Value.bool hb12
    refine cond_f (ev_tv rfl hq13) ?_
    refine c_skip ?_
    refine then_norm ?_
    refine hK6 _ _ ?_
    clear hK6
    refine c_seq ?_
    intro K15 hK15
    refine c_region ?_
    refine L_val (v := .int .i64 0) (y_assign ev_c) ?_
    refine l_nil ?_
    refine then_norm ?_
    refine hK15 _ _ ?_
    clear hK15
    refine c_seq ?_
    intro K16 hK16
    refine c_seq ?_
    intro K17 hK17
    refine c_region ?_
    refine L_val (v := .pointer a_q1) (y_move (ev_tv rfl rfl)) ?_
    obtain ⟨x20, x21, x22, hc18, H⟩ := H
    refine L_val (v := .agg #[.int .i64 x20, .int .i64 x21, .int .i64 x22]) (y_loadAgg Try.underlying29 rfl Try.type29 rfl (ev_tv rfl rfl) hc18) ?_
    refine L_call (y_call Try.call8 (map_ev2 (ev_tv rfl rfl) (ev_tv rfl rfl)) ev_f) (Calls.mono H ?_)
    clear H
    rintro _ w24 ⟨x23, x23l, x23c, rfl, H⟩
    refine ⟨_, rfl, ?_⟩
    refine L_val (v := .int .i64 ((x23l : Nat) : Int)) (y_len Try.underlying34 rfl (map_ev1 (ev_tv rfl rfl))) ?_
    refine L_val (v := .int .i64 0) (y_move ev_c) ?_
    refine l_nil ?_
    refine then_norm ?_
    refine hK17 _ _ ?_
    clear hK17
    refine c_block ?_
    obtain ⟨I19, ⟨m23, HI24⟩, H⟩ := H
    refine loop_fr ([(9, 9), (11, 11), (19, 67)]) (fun m ff ww => ∃ (v26 : Int) (v27 : Int), ff 9 = (.int .i64 v26 : Value) ∧ ff 19 = (.int .i64 v27 : Value) ∧ I19 m v26 v27 ww) m23 ⟨0, 0, rfl, rfl, HI24⟩ ?_
    rintro m28 f20 w29 hag21 ⟨v26, v27, hs25, hs26, HI22⟩
    replace H := H m28 v26 v27 w29 HI22
    refine c_seq ?_
    intro K27 hK27
    refine c_region ?_
    refine L_val (v := .bool (decide ((v27 : Int) < ((x23l : Nat) : Int)))) (y_lss (ev_tv rfl hs26) (ev_tv rfl ((hag21 18 rfl).trans rfl))) ?_
    refine l_nil ?_
    refine then_norm ?_
    refine hK27 _ _ ?_
    clear hK27
    refine c_seq ?_
    intro K28 hK28
    rcases (Decidable.em ((v27 : Int) < ((x23l : Nat) : Int))) with hb29 | hb29
    · replace H := H.1 hb29
      have hq30 : Value.bool (decide ((v27 : Int) < ((x23l : Nat) : Int))) = Value.bool true := congrArg Value.bool (decide_eq_true hb29)
      refine cond_t (ev_tv rfl hq30) ?_
      refine c_skip ?_
      refine then_norm ?_
      refine hK28 _ _ ?_
      clear hK28
      refine c_seq ?_
      intro K31 hK31
      refine c_block ?_
      refine c_seq ?_
      intro K32 hK32
      refine c_region ?_
      obtain ⟨b30, o31, rfl, H⟩ := H
      obtain ⟨hi33, hi34, H⟩ := H
      refine L_val (v := .pointer (some ⟨b30, o31 + (v27 : Int).toNat, none⟩)) (y_ix1 Try.underlying34 Try.type3 rfl (ev_tv rfl ((hag21 17 rfl).trans rfl)) (ev_tv rfl hs26) hi33 hi34) ?_
      obtain ⟨x32, hc35, H⟩ := H
      refine L_val (v := .int .i64 x32) (y_load Try.underlying3 rfl (ev_tv rfl rfl) hc35) ?_
      refine L_val (v := .int .i64 x32) (y_assign (ev_tv rfl rfl)) ?_
      refine l_nil ?_
      refine then_norm ?_
      refine hK32 _ _ ?_
      clear hK32
      refine c_seq ?_
      intro K36 hK36
      refine c_seq ?_
      intro K37 hK37
      refine c_region ?_
      refine L_val (v := .int .i64 v26) (y_move (ev_tv rfl hs25)) ?_
      refine L_val (v := .int .i64 a_n8) (y_move (ev_tv rfl ((hag21 3 rfl).trans rfl))) ?_
      refine L_val (v := .bool (decide ((a_n8 : Int) ≤ v26))) (y_geq (ev_tv rfl rfl) (ev_tv rfl rfl)) ?_
      refine l_nil ?_
      refine then_norm ?_
      refine hK37 _ _ ?_
      clear hK37
      rcases (Decidable.em ((a_n8 : Int) ≤ v26)) with hb38 | hb38
      · replace H := H.1 hb38
        have hq39 : Value.bool (decide ((a_n8 : Int) ≤ v26)) = Value.bool true := congrArg Value.bool (decide_eq_true hb38)
        refine cond_t (ev_tv rfl hq39) ?_
        refine c_exit ?_
        refine then_exit ?_
        refine block_miss rfl ?_
        refine then_exit ?_
        refine then_exit ?_
        refine block_hit ?_
        refine then_norm ?_
        refine hK16 _ _ ?_
        clear hK16
        refine c_seq ?_
        intro K40 hK40
        refine c_region ?_
        refine L_val (v := .int .i64 v26) (y_move (ev_tv rfl hs25)) ?_
        refine L_val (v := .int .i64 v26) (y_assign (ev_tv rfl rfl)) ?_
        refine l_nil ?_
        refine then_norm ?_
        refine hK40 _ _ ?_
        clear hK40
        refine c_ret ?_
        exact body_1 rfl (ev_tv rfl rfl) H
      · replace H := H.2 hb38
        have hq39 : Value.bool (decide ((a_n8 : Int) ≤ v26)) = Value.bool false := congrArg Value.bool (decide_eq_false hb38)
        refine cond_f (ev_tv rfl hq39) ?_
        refine c_skip ?_
        refine then_norm ?_
        refine hK36 _ _ ?_
        clear hK36
        refine c_seq ?_
        intro K41 hK41
        refine c_seq ?_
        intro K42 hK42
        refine D_start Try.mixed rfl [7] ?_
        refine start_keep fun hS => ?_
        refine D_pure (i := 0) (v := .pointer a_q1) rfl (by kernel_rfl) (W_none rfl) (fun _ => y_move (ev_tv rfl ((hag21 0 rfl).trans rfl))) hS ?_
        intro hS
        obtain ⟨b33, o34, rfl, H⟩ := H
        refine D_pure (i := 1) (v := .pointer (some ⟨b33, o34, none⟩)) rfl (by kernel_rfl) (W_none rfl) (fun _ => y_nilCheck (ev_tv rfl rfl)) hS ?_
        intro hS
        refine D_pure (i := 2) (v := .pointer (some ⟨b33, o34 + 1, none⟩)) rfl (by kernel_rfl) (W_none rfl) (fun _ => Try.fa52_1 (ev_tv rfl rfl)) hS ?_
        intro hS
        refine D_pure (i := 4) (v := .int .i64 x32) rfl (by kernel_rfl) (W_none rfl) (fun _ => y_move (ev_tv rfl rfl)) hS ?_
        intro hS
        obtain ⟨x35, hc43, H⟩ := H
        refine D_read (i := 3) (v := .map x35) rfl (by kernel_rfl) (W_none rfl) (fun wx => World.cell? wx ⟨b33, o34 + 1, none⟩ = some (.map x35)) hc43 (fun _ hcx => y_load Try.underlying50 rfl (ev_tv rfl rfl) hcx) hS ?_
        intro hS
        obtain ⟨x36, x36l, x36c, hc44, H⟩ := H
        refine D_read (i := 5) (v := .slice x36 x36l x36c) rfl (by kernel_rfl) (W_none rfl) (fun wx => (Instr.lookup 50 (.map x35) (.int .i64 x32) false).run Try.prog wx = .ok (.slice x36 x36l x36c) wx) hc44 (fun _ hcx => y_lookup (ev_tv rfl rfl) (ev_tv rfl rfl) hcx) hS ?_
        intro hS
        obtain ⟨x37, x38, x39, hc45, H⟩ := H
        refine D_read (i := 6) (v := .agg #[.int .i64 x37, .int .i64 x38, .int .i64 x39]) rfl (by kernel_rfl) (W_none rfl) (fun wx => CellsAt wx ⟨b11, 0, none⟩ [.int .i64 x37, .int .i64 x38, .int .i64 x39]) hc45 (fun _ hcx => y_loadAgg Try.underlying29 rfl Try.type29 rfl (ev_tv rfl ((hag21 6 rfl).trans rfl)) hcx) hS ?_
        intro hS
        refine D_only (i := 7) (by kernel_rfl) rfl ?_
        refine O_call (i := 7) rfl (W_none rfl) (y_call Try.call18 (map_ev2 (ev_tv rfl rfl) (ev_tv rfl rfl)) ev_f) (Calls.mono H ?_)
        clear H
        rintro _ w41 ⟨x40, rfl, H⟩
        refine ⟨_, rfl, ?_⟩
        obtain ⟨hs81, H⟩ := H
        refine and_keep (SS_off (by kernel_rfl) (SS_off (by kernel_rfl) (SS_on hs81 SS_nil))) fun hS => ?_
        refine D_done (by kernel_rfl) ?_
        refine then_norm ?_
        refine hK42 _ _ ?_
        clear hK42
        rcases Bool.eq_false_or_eq_true x40 with hb46 | hb46
        · replace H := H.1 hb46
          have hq47 : Value.bool (x40) = Value.bool true := congrArg Value.bool hb46
          refine cond_t (ev_tv rfl hq47) ?_
          refine c_exit ?_
          refine then_exit ?_
          refine block_hit ?_
          refine then_norm ?_
          refine hK31 _ _ ?_
          clear hK31
          refine c_region ?_
          obtain ⟨r42, hr48⟩ : ∃ r42 : Int, r42 = IntKind.wrap .i64 (v27 + 1) := ⟨_, rfl⟩
          replace H := H r42 hr48
          refine L_val (v := .int .i64 r42) (y_add (ev_tv rfl hs26) ev_c hr48) ?_
          refine L_val (v := .int .i64 r42) (y_move (ev_tv rfl rfl)) ?_
          refine l_nil ?_
          refine then_norm ?_
          obtain ⟨m43, hm49, H⟩ := H
          exact ⟨_, rfl, (by repeat (first | exact agree_refl | exact hag21 | refine agree_upd rfl ?_ | refine agree_via hag21 rfl ?_)), m43, hm49, _, _, hs25, rfl, H⟩
        · replace H := H.2 hb46
          have hq47 : Value.bool (x40) = Value.bool false := congrArg Value.bool hb46
          refine cond_f (ev_tv rfl hq47) ?_
          refine c_skip ?_
          refine then_norm ?_
          refine hK41 _ _ ?_
          clear hK41
          refine c_seq ?_
          intro K50 hK50
          refine c_region ?_
          refine L_val (v := .pointer (some ⟨b33, o34, none⟩)) (y_move (ev_tv rfl ((hag21 0 rfl).trans rfl))) ?_
          refine L_val (v := .int .i64 x32) (y_move (ev_tv rfl rfl)) ?_
          obtain ⟨x44, x45, x46, hc51, H⟩ := H
          refine L_val (v := .agg #[.int .i64 x44, .int .i64 x45, .int .i64 x46]) (y_loadAgg Try.underlying29 rfl Try.type29 rfl (ev_tv rfl ((hag21 5 rfl).trans rfl)) hc51) ?_
          refine L_call (y_call Try.call21 (map_ev3 (ev_tv rfl rfl) (ev_tv rfl rfl) (ev_tv rfl rfl)) ev_f) (Calls.mono H ?_)
          clear H
          rintro _ w47 ⟨rfl, H⟩
          refine ⟨_, rfl, ?_⟩
          refine l_nil ?_
          refine then_norm ?_
          refine hK50 _ _ ?_
          clear hK50
          refine c_seq ?_
          intro K52 hK52
          refine D_start Try.mixed rfl [13, 16] ?_
          refine start_keep fun hS => ?_
          refine D_pure (i := 0) (v := .pointer (some ⟨b33, o34, none⟩)) rfl (by kernel_rfl) (W_none rfl) (fun _ => y_move (ev_tv rfl ((hag21 0 rfl).trans rfl))) hS ?_
          intro hS
          refine D_pure (i := 1) (v := .pointer (some ⟨b33, o34, none⟩)) rfl (by kernel_rfl) (W_none rfl) (fun _ => y_nilCheck (ev_tv rfl rfl)) hS ?_
          intro hS
          refine D_pure (i := 2) (v := .pointer (some ⟨b33, o34 + 1, none⟩)) rfl (by kernel_rfl) (W_none rfl) (fun _ => Try.fa52_1 (ev_tv rfl rfl)) hS ?_
          intro hS
          refine D_pure (i := 4) (v := .int .i64 x32) rfl (by kernel_rfl) (W_none rfl) (fun _ => y_move (ev_tv rfl rfl)) hS ?_
          intro hS
          refine D_pure (i := 6) (v := .pointer (some ⟨b33, o34, none⟩)) rfl (by kernel_rfl) (W_none rfl) (fun _ => y_move (ev_tv rfl ((hag21 0 rfl).trans rfl))) hS ?_
          intro hS
          refine D_pure (i := 7) (v := .pointer (some ⟨b33, o34, none⟩)) rfl (by kernel_rfl) (W_none rfl) (fun _ => y_nilCheck (ev_tv rfl rfl)) hS ?_
          intro hS
          refine D_pure (i := 8) (v := .pointer (some ⟨b33, o34 + 1, none⟩)) rfl (by kernel_rfl) (W_none rfl) (fun _ => Try.fa52_1 (ev_tv rfl rfl)) hS ?_
          intro hS
          refine D_pure (i := 10) (v := .int .i64 x32) rfl (by kernel_rfl) (W_none rfl) (fun _ => y_move (ev_tv rfl rfl)) hS ?_
          intro hS
          obtain ⟨x49, hc53, H⟩ := H
          refine D_read (i := 3) (v := .map x49) rfl (by kernel_rfl) (W_none rfl) (fun wx => World.cell? wx ⟨b33, o34 + 1, none⟩ = some (.map x49)) hc53 (fun _ hcx => y_load Try.underlying50 rfl (ev_tv rfl rfl) hcx) hS ?_
          intro hS
          obtain ⟨x50, x50l, x50c, hc54, H⟩ := H
          refine D_read (i := 5) (v := .slice x50 x50l x50c) rfl (by kernel_rfl) (W_none rfl) (fun wx => (Instr.lookup 50 (.map x49) (.int .i64 x32) false).run Try.prog wx = .ok (.slice x50 x50l x50c) wx) hc54 (fun _ hcx => y_lookup (ev_tv rfl rfl) (ev_tv rfl rfl) hcx) hS ?_
          intro hS
          obtain ⟨x51, hc55, H⟩ := H
          refine D_read (i := 9) (v := .map x51) rfl (by kernel_rfl) (W_none rfl) (fun wx => World.cell? wx ⟨b33, o34 + 1, none⟩ = some (.map x51)) hc55 (fun _ hcx => y_load Try.underlying50 rfl (ev_tv rfl rfl) hcx) hS ?_
          intro hS
          obtain ⟨x52, x52l, x52c, hc56, H⟩ := H
          refine D_read (i := 11) (v := .slice x52 x52l x52c) rfl (by kernel_rfl) (W_none rfl) (fun wx => (Instr.lookup 50 (.map x51) (.int .i64 x32) false).run Try.prog wx = .ok (.slice x52 x52l x52c) wx) hc56 (fun _ hcx => y_lookup (ev_tv rfl rfl) (ev_tv rfl rfl) hcx) hS ?_
          intro hS
          obtain ⟨x53, x54, x55, hc57, H⟩ := H
          refine D_read (i := 12) (v := .agg #[.int .i64 x53, .int .i64 x54, .int .i64 x55]) rfl (by kernel_rfl) (W_none rfl) (fun wx => CellsAt wx ⟨b9, 0, none⟩ [.int .i64 x53, .int .i64 x54, .int .i64 x55]) hc57 (fun _ hcx => y_loadAgg Try.underlying29 rfl Try.type29 rfl (ev_tv rfl ((hag21 5 rfl).trans rfl)) hcx) hS ?_
          intro hS
          obtain ⟨x56, x57, x58, hc58, H⟩ := H
          refine D_read (i := 14) (v := .agg #[.int .i64 x56, .int .i64 x57, .int .i64 x58]) rfl (by kernel_rfl) (W_none rfl) (fun wx => CellsAt wx ⟨b11, 0, none⟩ [.int .i64 x56, .int .i64 x57, .int .i64 x58]) hc58 (fun _ hcx => y_loadAgg Try.underlying29 rfl Try.type29 rfl (ev_tv rfl ((hag21 6 rfl).trans rfl)) hcx) hS ?_
          intro hS
          refine D_only (i := 13) (by kernel_rfl) rfl ?_
          refine O_call (i := 13) rfl (W_none rfl) (y_call Try.call22 (map_ev2 (ev_tv rfl rfl) (ev_tv rfl rfl)) ev_f) (Calls.mono H ?_)
          clear H
          rintro _ w60 ⟨x59, rfl, H⟩
          refine ⟨_, rfl, ?_⟩
          obtain ⟨hs77, hs78, hs79, hs80, H⟩ := H
          refine and_keep (SS_on hs77 (SS_off (by kernel_rfl) (SS_off (by kernel_rfl) (SS_on hs78 (SS_on hs79 (SS_on hs80 SS_nil)))))) fun hS => ?_
          obtain ⟨b61, o62, rfl, H⟩ := H
          obtain ⟨hi59, hi60, H⟩ := H
          refine D_pure (i := 15) (v := .pointer (some ⟨b61, o62 + (x59 : Int).toNat * 3, none⟩)) rfl (by kernel_rfl) (W_none rfl) (fun _ => y_ix Try.underlying27 Try.type29 rfl (ev_tv rfl rfl) (ev_tv rfl rfl) hi59 hi60) hS ?_
          intro hS
          refine D_only (i := 16) (by kernel_rfl) rfl ?_
          obtain ⟨hc61, H⟩ := H
          obtain ⟨w63, hw63⟩ : ∃ w63 : World, w63 = putCells w60 ⟨b61, o62 + (x59 : Int).toNat * 3, none⟩ [.int .i64 x56, .int .i64 x57, .int .i64 x58] 0 := ⟨_, rfl⟩
          replace H := H w63 hw63
          refine O_skip (i := 16) rfl (W_none rfl) (y_storeAgg Try.type29 rfl (by intro v hv; simp only [List.mem_cons, List.not_mem_nil, or_false] at hv; rcases hv with rfl | rfl | rfl <;> rfl) (ev_tv rfl rfl) (ev_tv rfl rfl) hc61 hw63) ?_
          refine and_keep (SS_off (by kernel_rfl) (SS_off (by kernel_rfl) (SS_off (by kernel_rfl) (SS_off (by kernel_rfl) (SS_off (by kernel_rfl) (SS_off (by kernel_rfl) SS_nil)))))) fun hS => ?_
          refine D_done (by kernel_rfl) ?_
          refine then_norm ?_
          refine hK52 _ _ ?_
          clear hK52
          refine c_seq ?_
          intro K64 hK64
          refine D_start Try.mixed rfl [6, 7, 9, 11] ?_
          refine start_keep fun hS => ?_
          refine D_pure (i := 0) (v := .pointer (some ⟨b33, o34, none⟩)) rfl (by kernel_rfl) (W_none rfl) (fun _ => y_move (ev_tv rfl ((hag21 0 rfl).trans rfl))) hS ?_
          intro hS
          refine D_pure (i := 1) (v := .pointer (some ⟨b33, o34, none⟩)) rfl (by kernel_rfl) (W_none rfl) (fun _ => y_nilCheck (ev_tv rfl rfl)) hS ?_
          intro hS
          refine D_pure (i := 2) (v := .pointer (some ⟨b33, o34, none⟩)) rfl (by kernel_rfl) (W_none rfl) (fun _ => Try.fa52_0 (ev_tv rfl rfl)) hS ?_
          intro hS
          refine D_pure (i := 5) (v := .int .i64 x32) rfl (by kernel_rfl) (W_none rfl) (fun _ => y_move (ev_tv rfl rfl)) hS ?_
          intro hS
          obtain ⟨x64, hc65, H⟩ := H
          refine D_read (i := 3) (v := .map x64) rfl (by kernel_rfl) (W_none rfl) (fun wx => World.cell? wx ⟨b33, o34, none⟩ = some (.map x64)) hc65 (fun _ hcx => y_load Try.underlying49 rfl (ev_tv rfl rfl) hcx) hS ?_
          intro hS
          obtain ⟨x65, x66, x67, hc66, H⟩ := H
          refine D_read (i := 4) (v := .agg #[.int .i64 x65, .int .i64 x66, .int .i64 x67]) rfl (by kernel_rfl) (W_none rfl) (fun wx => CellsAt wx ⟨b11, 0, none⟩ [.int .i64 x65, .int .i64 x66, .int .i64 x67]) hc66 (fun _ hcx => y_loadAgg Try.underlying29 rfl Try.type29 rfl (ev_tv rfl ((hag21 6 rfl).trans rfl)) hcx) hS ?_
          intro hS
          refine D_only (i := 6) (by kernel_rfl) rfl ?_
          obtain ⟨b68, hb67⟩ : ∃ b68 : Nat, b68 = World.heapSize (w63.drew) := ⟨_, rfl⟩
          obtain ⟨w69, hw68⟩ : ∃ w69 : World, w69 = World.alloc (w63.drew) (.cells #[.int .i64 x32] 3) := ⟨_, rfl⟩
          replace H := H b68 w69 hb67 hw68
          refine O_val (i := 6) (v := .slice (some ⟨b68, 0, none⟩) 1 1) rfl (W_none rfl) (y_buildSlice (parts_ev1 (ev_tv rfl rfl)) hb67 hw68 (by kernel_rfl)) ?_
          obtain ⟨hs75, hs76, H⟩ := H
          refine and_keep (SS_on hs75 (SS_on hs76 SS_nil)) fun hS => ?_
          refine D_only (i := 7) (by kernel_rfl) rfl ?_
          obtain ⟨x70, x70l, x70c, s71, w72, hc69, H⟩ := H
          refine O_val (i := 7) (v := .tuple #[.slice x70 x70l x70c, .int .i64 s71]) rfl (W_none rfl) (y_mapEntry (ev_tv rfl rfl) (ev_tv rfl rfl) hc69) ?_
          refine and_keep (SS_off (by kernel_rfl) (SS_off (by kernel_rfl) SS_nil)) fun hS => ?_
          refine D_pure (i := 8) (v := .slice x70 x70l x70c) rfl (by kernel_rfl) (W_none rfl) (fun _ => y_extract (ev_tv rfl rfl) rfl) hS ?_
          intro hS
          refine D_pure (i := 10) (v := .int .i64 s71) rfl (by kernel_rfl) (W_none rfl) (fun _ => y_extract (ev_tv rfl rfl) rfl) hS ?_
          intro hS
          refine D_only (i := 9) (by kernel_rfl) rfl ?_
          obtain ⟨x74, x74l, x74c, w73, hc70, H⟩ := H
          refine O_val (i := 9) (v := .slice x74 x74l x74c) rfl (W_none rfl) (y_bi_append (map_ev2 (ev_tv rfl rfl) (ev_tv rfl rfl)) hc70) ?_
          refine and_keep (SS_off (by kernel_rfl) (SS_off (by kernel_rfl) SS_nil)) fun hS => ?_
          refine D_only (i := 11) (by kernel_rfl) rfl ?_
          obtain ⟨w75, hw71, H⟩ := H
          refine O_skip (i := 11) rfl (W_none rfl) (y_entryStore (ev_tv rfl rfl) (ev_tv rfl rfl) (ev_tv rfl rfl) hw71) ?_
          refine and_keep (SS_off (by kernel_rfl) (SS_off (by kernel_rfl) SS_nil)) fun hS => ?_
          refine D_done (by kernel_rfl) ?_
          refine then_norm ?_
          refine hK64 _ _ ?_
          clear hK64
          refine c_region ?_
          refine L_val (v := .int .i64 v26) (y_move (ev_tv rfl hs25)) ?_
          obtain ⟨r76, hr72⟩ : ∃ r76 : Int, r76 = IntKind.wrap .i64 (v26 + 1) := ⟨_, rfl⟩
          replace H := H r76 hr72
          refine L_val (v := .int .i64 r76) (y_add (ev_tv rfl rfl) ev_c hr72) ?_
          refine L_val (v := .int .i64 r76) (y_assign (ev_tv rfl rfl)) ?_
          refine l_nil ?_
          refine block_norm ?_
          refine then_norm ?_
          refine hK31 _ _ ?_
          clear hK31
          refine c_region ?_
          obtain ⟨r77, hr73⟩ : ∃ r77 : Int, r77 = IntKind.wrap .i64 (v27 + 1) := ⟨_, rfl⟩
          replace H := H r77 hr73
          refine L_val (v := .int .i64 r77) (y_add (ev_tv rfl hs26) ev_c hr73) ?_
          refine L_val (v := .int .i64 r77) (y_move (ev_tv rfl rfl)) ?_
          refine l_nil ?_
          refine then_norm ?_
          obtain ⟨m78, hm74, H⟩ := H
          exact ⟨_, rfl, (by repeat (first | exact agree_refl | exact hag21 | refine agree_upd rfl ?_ | refine agree_via hag21 rfl ?_)), m78, hm74, _, _, rfl, rfl, H⟩
    · replace H := H.2 hb29
      have hq30 : Value.bool (decide ((v27 : Int) < ((x23l : Nat) : Int))) = Value.bool false := congrArg Value.bool (decide_eq_false hb29)
      refine cond_f (ev_tv rfl hq30) ?_
      refine c_exit ?_
      refine then_exit ?_
      refine then_exit ?_
      refine block_hit ?_
      refine then_norm ?_
      refine hK16 _ _ ?_
      clear hK16
      refine c_seq ?_
      intro K82 hK82
      refine c_region ?_
      refine L_val (v := .int .i64 v26) (y_move (ev_tv rfl hs25)) ?_
      refine L_val (v := .int .i64 v26) (y_assign (ev_tv rfl rfl)) ?_
      refine l_nil ?_
      refine then_norm ?_
      refine hK82 _ _ ?_
      clear hK82
      refine c_ret ?_
      exact body_1 rfl (ev_tv rfl rfl) H

/-- (parapet/waitq.Queue).Len -/
def Vc12 (a_q1 : Option Addr) (w : World) (R : Ending → World → Prop) : Prop :=
  (Calls Try.prog 17 #[.pointer a_q1] w fun e w3 => ∃ x2 : Bool, e = .returned (.bool x2) ∧ (((x2 = true) → (∃ (b5 o6 : Nat), a_q1 = some ⟨b5, o6, none⟩ ∧ (∃ x7 : Option Nat, World.cell? w3 ⟨b5, o6 + 1, none⟩ = some (.map x7) ∧ (∃ n8 : Int, (Builtin.len_ #[50] 3 #[.map x7]).run Try.prog w3 = .ok (.int .i64 n8) w3 ∧ R (.returned (.int .i64 n8)) w3)))) ∧ ((x2 = false) → R (.returned (.int .i64 0)) w3)))

theorem vc12 {a_q1 : Option Addr} {w : World} {R : Ending → World → Prop} (H : Vc12 a_q1 w R) : Calls Try.prog 12 #[.pointer a_q1] w R := by
  unfold Vc12 at H
  refine calls_start [.pointer a_q1] Try.func12 rfl Try.ntmps12 rfl ?_
  refine c_seq ?_
  intro K1 hK1
  refine c_region ?_
  refine L_val (v := .int .i64 0) (y_assign ev_c) ?_
  refine l_nil ?_
  refine then_norm ?_
  refine hK1 _ _ ?_
  clear hK1
  refine c_seq ?_
  intro K2 hK2
  refine c_seq ?_
  intro K3 hK3
  refine c_region ?_
  refine L_val (v := .pointer a_q1) (y_move (ev_tv rfl rfl)) ?_
  refine L_call (y_call Try.call17 (map_ev1 (ev_tv rfl rfl)) ev_f) (Calls.mono H ?_)
  clear H
  rintro _ w3 ⟨x2, rfl, H⟩
  refine ⟨_, rfl, ?_⟩
  rcases Bool.eq_false_or_eq_true x2 with hb4 | hb4
  · replace H := H.1 hb4
    have hq5 : Value.bool (x2) = Value.bool true := congrArg Value.bool hb4
    refine L_val (v := .bool false) (y_not_t (ev_tv rfl hq5)) ?_
    refine l_nil ?_
    refine then_norm ?_
    refine hK3 _ _ ?_
    clear hK3
    refine cond_f (ev_tv rfl rfl) ?_
    refine c_skip ?_
    refine then_norm ?_
    refine hK2 _ _ ?_
    clear hK2
    refine c_seq ?_
    intro K6 hK6
    refine c_region ?_
    refine L_val (v := .pointer a_q1) (y_move (ev_tv rfl rfl)) ?_
    obtain ⟨b5, o6, rfl, H⟩ := H
    refine L_val (v := .pointer (some ⟨b5, o6, none⟩)) (y_nilCheck (ev_tv rfl rfl)) ?_
    refine L_val (v := .pointer (some ⟨b5, o6 + 1, none⟩)) (Try.fa52_1 (ev_tv rfl rfl)) ?_
    obtain ⟨x7, hc7, H⟩ := H
    refine L_val (v := .map x7) (y_load Try.underlying50 rfl (ev_tv rfl rfl) hc7) ?_
    obtain ⟨n8, hc8, H⟩ := H
    refine L_val (v := .int .i64 n8) (y_bi_len (map_ev1 (ev_tv rfl rfl)) hc8) ?_
    refine L_val (v := .int .i64 n8) (y_assign (ev_tv rfl rfl)) ?_
    refine l_nil ?_
    refine then_norm ?_
    refine hK6 _ _ ?_
    clear hK6
    refine c_ret ?_
    exact body_1 rfl (ev_tv rfl rfl) H
  · replace H := H.2 hb4
    have hq5 : Value.bool (x2) = Value.bool false := congrArg Value.bool hb4
    refine L_val (v := .bool true) (y_not_f (ev_tv rfl hq5)) ?_
    refine l_nil ?_
    refine then_norm ?_
    refine hK3 _ _ ?_
    clear hK3
    refine cond_t (ev_tv rfl rfl) ?_
    refine c_seq ?_
    intro K9 hK9
    refine c_region ?_
    refine L_val (v := .int .i64 0) (y_assign ev_c) ?_
    refine l_nil ?_
    refine then_norm ?_
    refine hK9 _ _ ?_
    clear hK9
    refine c_ret ?_
    refine then_ret ?_
    exact body_1 rfl (ev_tv rfl rfl) H

/-- (parapet/waitq.Queue).All -/
def Vc13 (a_q1 : Option Addr) (w : World) (R : Ending → World → Prop) : Prop :=
  (Calls Try.prog 17 #[.pointer a_q1] w fun e w3 => ∃ x2 : Bool, e = .returned (.bool x2) ∧ (((x2 = true) → (∃ (b5 o6 : Nat), a_q1 = some ⟨b5, o6, none⟩ ∧ (∃ x7 : Option Nat, World.cell? w3 ⟨b5, o6 + 1, none⟩ = some (.map x7) ∧ (Calls Try.prog 24 #[.map x7] w3 fun e w9 => ∃ x8 : Value, e = .returned (x8) ∧ (Calls Try.prog 23 #[x8] w9 fun e w12 => ∃ x11 : Option Addr, ∃ x11l : Nat, ∃ x11c : Nat, e = .returned (.slice x11 x11l x11c) ∧ R (.returned (.slice x11 x11l x11c)) w12))))) ∧ ((x2 = false) → R (.returned (.slice none 0 0)) w3)))

theorem vc13 {a_q1 : Option Addr} {w : World} {R : Ending → World → Prop} (H : Vc13 a_q1 w R) : Calls Try.prog 13 #[.pointer a_q1] w R := by
  unfold Vc13 at H
  refine calls_start [.pointer a_q1] Try.func13 rfl Try.ntmps13 rfl ?_
  refine c_seq ?_
  intro K1 hK1
  refine c_region ?_
  refine L_val (v := .slice none 0 0) (y_assign ev_c) ?_
  refine l_nil ?_
  refine then_norm ?_
  refine hK1 _ _ ?_
  clear hK1
  refine c_seq ?_
  intro K2 hK2
  refine c_seq ?_
  intro K3 hK3
  refine c_region ?_
  refine L_val (v := .pointer a_q1) (y_move (ev_tv rfl rfl)) ?_
  refine L_call (y_call Try.call17 (map_ev1 (ev_tv rfl rfl)) ev_f) (Calls.mono H ?_)
  clear H
  rintro _ w3 ⟨x2, rfl, H⟩
  refine ⟨_, rfl, ?_⟩
  rcases Bool.eq_false_or_eq_true x2 with hb4 | hb4
  · replace H := H.1 hb4
    have hq5 : Value.bool (x2) = Value.bool true := congrArg Value.bool hb4
    refine L_val (v := .bool false) (y_not_t (ev_tv rfl hq5)) ?_
    refine l_nil ?_
    refine then_norm ?_
    refine hK3 _ _ ?_
    clear hK3
    refine cond_f (ev_tv rfl rfl) ?_
    refine c_skip ?_
    refine then_norm ?_
    refine hK2 _ _ ?_
    clear hK2
    refine c_seq ?_
    intro K6 hK6
    refine c_region ?_
    refine L_val (v := .pointer a_q1) (y_move (ev_tv rfl rfl)) ?_
    obtain ⟨b5, o6, rfl, H⟩ := H
    refine L_val (v := .pointer (some ⟨b5, o6, none⟩)) (y_nilCheck (ev_tv rfl rfl)) ?_
    refine L_val (v := .pointer (some ⟨b5, o6 + 1, none⟩)) (Try.fa52_1 (ev_tv rfl rfl)) ?_
    obtain ⟨x7, hc7, H⟩ := H
    refine L_val (v := .map x7) (y_load Try.underlying50 rfl (ev_tv rfl rfl) hc7) ?_
    refine L_call (y_call Try.call24 (map_ev1 (ev_tv rfl rfl)) ev_f) (Calls.mono H ?_)
    clear H
    rintro _ w9 ⟨x8, rfl, H⟩
    refine ⟨_, rfl, ?_⟩
    refine L_call (y_call Try.call23 (map_ev1 (ev_tv rfl rfl)) ev_f) (Calls.mono H ?_)
    clear H
    rintro _ w12 ⟨x11, x11l, x11c, rfl, H⟩
    refine ⟨_, rfl, ?_⟩
    refine L_val (v := .slice x11 x11l x11c) (y_assign (ev_tv rfl rfl)) ?_
    refine l_nil ?_
    refine then_norm ?_
    refine hK6 _ _ ?_
    clear hK6
    refine c_ret ?_
    exact body_1 rfl (ev_tv rfl rfl) H
  · replace H := H.2 hb4
    have hq5 : Value.bool (x2) = Value.bool false := congrArg Value.bool hb4
    refine L_val (v := .bool true) (y_not_f (ev_tv rfl hq5)) ?_
    refine l_nil ?_
    refine then_norm ?_
    refine hK3 _ _ ?_
    clear hK3
    refine cond_t (ev_tv rfl rfl) ?_
    refine c_seq ?_
    intro K8 hK8
    refine c_region ?_
    refine L_val (v := .slice none 0 0) (y_assign ev_c) ?_
    refine l_nil ?_
    refine then_norm ?_
    refine hK8 _ _ ?_
    clear hK8
    refine c_ret ?_
    refine then_ret ?_
    exact body_1 rfl (ev_tv rfl rfl) H

/-- parapet/parapetlaw12.sameInts -/
def Vc16 (a_a1 : Option Addr) (a_a1l : Nat) (a_a1c : Nat) (a_b2 : Option Addr) (a_b2l : Nat) (a_b2c : Nat) (w : World) (R : Ending → World → Prop) : Prop :=
  (((¬ ((((a_a1l : Nat) : Int) : Int) = ((a_b2l : Nat) : Int))) → R (.returned (.bool false)) w) ∧ (((((a_a1l : Nat) : Int) : Int) = ((a_b2l : Nat) : Int)) → (∃ I9 : Nat → Int → World → Prop, (∃ m, I9 m 0 w) ∧ ∀ (m4 : Nat) (v3 : Int) (w5 : World), I9 m4 v3 w5 → ((((v3 : Int) < ((a_a1l : Nat) : Int)) → (∃ (b6 o7 : Nat), a_a1 = some ⟨b6, o7, none⟩ ∧ ((0 : Int) ≤ v3 ∧ v3 < ((a_a1l : Nat) : Int) ∧ (∃ (b8 o9 : Nat), a_b2 = some ⟨b8, o9, none⟩ ∧ ((0 : Int) ≤ v3 ∧ v3 < ((a_b2l : Nat) : Int) ∧ (∃ x10 : Int, World.cell? (w5.drew) ⟨b6, o7 + (v3 : Int).toNat, none⟩ = some (.int .i64 x10) ∧ (∃ x11 : Int, World.cell? (w5.drew) ⟨b8, o9 + (v3 : Int).toNat, none⟩ = some (.int .i64 x11) ∧ (((¬ ((x10 : Int) = x11)) → R (.returned (.bool false)) (w5.drew)) ∧ (((x10 : Int) = x11) → (∀ r12 : Int, r12 = IntKind.wrap .i64 (v3 + 1) → (∃ m13, m13 < m4 ∧ I9 m13 r12 (w5.drew)))))))))))) ∧ ((¬ ((v3 : Int) < ((a_a1l : Nat) : Int))) → R (.returned (.bool true)) w5)))))

theorem vc16 {a_a1 : Option Addr} {a_a1l : Nat} {a_a1c : Nat} {a_b2 : Option Addr} {a_b2l : Nat} {a_b2c : Nat} {w : World} {R : Ending → World → Prop} (H : Vc16 a_a1 a_a1l a_a1c a_b2 a_b2l a_b2c w R) : Calls Try.prog 16 #[.slice a_a1 a_a1l a_a1c, .slice a_b2 a_b2l a_b2c] w R := by
  unfold Vc16 at H
  refine calls_start [.slice a_a1 a_a1l a_a1c, .slice a_b2 a_b2l a_b2c] Try.func16 rfl Try.ntmps16 rfl ?_
  refine c_seq ?_
  intro K1 hK1
  refine c_region ?_
  refine L_val (v := .bool false) (y_assign ev_c) ?_
  refine l_nil ?_
  refine then_norm ?_
  refine hK1 _ _ ?_
  clear hK1
  refine c_seq ?_
  intro K2 hK2
  refine c_seq ?_
  intro K3 hK3
  refine c_region ?_
  refine L_val (v := .slice a_a1 a_a1l a_a1c) (y_move (ev_tv rfl rfl)) ?_
  refine L_val (v := .int .i64 ((a_a1l : Nat) : Int)) (y_len Try.underlying34 rfl (map_ev1 (ev_tv rfl rfl))) ?_
  refine L_val (v := .slice a_b2 a_b2l a_b2c) (y_move (ev_tv rfl rfl)) ?_
  refine L_val (v := .int .i64 ((a_b2l : Nat) : Int)) (y_len Try.underlying34 rfl (map_ev1 (ev_tv rfl rfl))) ?_
  refine L_val (v := .bool (!decide ((((a_a1l : Nat) : Int) : Int) = ((a_b2l : Nat) : Int)))) (y_ine (ev_tv rfl rfl) (ev_tv rfl rfl)) ?_
  refine l_nil ?_
  refine then_norm ?_
  refine hK3 _ _ ?_
  clear hK3
  rcases (Decidable.em ((((a_a1l : Nat) : Int) : Int) = ((a_b2l : Nat) : Int))).symm with hb4 | hb4
  · replace H := H.1 hb4
    have hq5 : Value.bool (!decide ((((a_a1l : Nat) : Int) : Int) = ((a_b2l : Nat) : Int))) = Value.bool true := congrArg Value.bool (ndec_t hb4)
    refine cond_t (ev_tv rfl hq5) ?_
    refine c_seq ?_
    intro K6 hK6
    refine c_region ?_
    refine L_val (v := .bool false) (y_assign ev_c) ?_
    refine l_nil ?_
    refine then_norm ?_
    refine hK6 _ _ ?_
    clear hK6
    refine c_ret ?_
    refine then_ret ?_
    exact body_1 rfl (ev_tv rfl rfl) H
  · replace H := H.2 hb4
    have hq5 : Value.bool (!decide ((((a_a1l : Nat) : Int) : Int) = ((a_b2l : Nat) : Int))) = Value.bool false := congrArg Value.bool (ndec_f hb4)
    refine cond_f (ev_tv rfl hq5) ?_
    refine c_skip ?_
    refine then_norm ?_
    refine hK2 _ _ ?_
    clear hK2
    refine c_seq ?_
    intro K7 hK7
    refine c_seq ?_
    intro K8 hK8
    refine c_region ?_
    refine L_val (v := .slice a_a1 a_a1l a_a1c) (y_move (ev_tv rfl rfl)) ?_
    refine L_val (v := .int .i64 ((a_a1l : Nat) : Int)) (y_len Try.underlying34 rfl (map_ev1 (ev_tv rfl rfl))) ?_
    refine L_val (v := .int .i64 0) (y_move ev_c) ?_
    refine l_nil ?_
    refine then_norm ?_
    refine hK8 _ _ ?_
    clear hK8
    refine c_block ?_
    obtain ⟨I9, ⟨m13, HI14⟩, H⟩ := H
    refine loop_fr ([(4, 5), (13, 25)]) (fun m ff ww => ∃ (v3 : Int), ff 13 = (.int .i64 v3 : Value) ∧ I9 m v3 ww) m13 ⟨0, rfl, HI14⟩ ?_
    rintro m4 f10 w5 hag11 ⟨v3, hs15, HI12⟩
    replace H := H m4 v3 w5 HI12
    refine c_seq ?_
    intro K16 hK16
    refine c_region ?_
    refine L_val (v := .bool (decide ((v3 : Int) < ((a_a1l : Nat) : Int)))) (y_lss (ev_tv rfl hs15) (ev_tv rfl ((hag11 12 rfl).trans rfl))) ?_
    refine l_nil ?_
    refine then_norm ?_
    refine hK16 _ _ ?_
    clear hK16
    refine c_seq ?_
    intro K17 hK17
    rcases (Decidable.em ((v3 : Int) < ((a_a1l : Nat) : Int))) with hb18 | hb18
    · replace H := H.1 hb18
      have hq19 : Value.bool (decide ((v3 : Int) < ((a_a1l : Nat) : Int))) = Value.bool true := congrArg Value.bool (decide_eq_true hb18)
      refine cond_t (ev_tv rfl hq19) ?_
      refine c_skip ?_
      refine then_norm ?_
      refine hK17 _ _ ?_
      clear hK17
      refine c_seq ?_
      intro K20 hK20
      refine c_block ?_
      refine c_seq ?_
      intro K21 hK21
      refine c_region ?_
      refine L_val (v := .int .i64 v3) (y_move (ev_tv rfl hs15)) ?_
      refine L_val (v := .int .i64 v3) (y_assign (ev_tv rfl rfl)) ?_
      refine l_nil ?_
      refine then_norm ?_
      refine hK21 _ _ ?_
      clear hK21
      refine c_seq ?_
      intro K22 hK22
      refine D_start Try.mixed rfl [] ?_
      refine start_keep fun hS => ?_
      refine D_pure (i := 0) (v := .slice a_a1 a_a1l a_a1c) rfl (by kernel_rfl) (W_none rfl) (fun _ => y_move (ev_tv rfl ((hag11 0 rfl).trans rfl))) hS ?_
      intro hS
      refine D_pure (i := 1) (v := .int .i64 v3) rfl (by kernel_rfl) (W_none rfl) (fun _ => y_move (ev_tv rfl rfl)) hS ?_
      intro hS
      obtain ⟨b6, o7, rfl, H⟩ := H
      obtain ⟨hi23, hi24, H⟩ := H
      refine D_pure (i := 2) (v := .pointer (some ⟨b6, o7 + (v3 : Int).toNat, none⟩)) rfl (by kernel_rfl) (W_none rfl) (fun _ => y_ix1 Try.underlying34 Try.type3 rfl (ev_tv rfl rfl) (ev_tv rfl rfl) hi23 hi24) hS ?_
      intro hS
      refine D_pure (i := 4) (v := .slice a_b2 a_b2l a_b2c) rfl (by kernel_rfl) (W_none rfl) (fun _ => y_move (ev_tv rfl ((hag11 1 rfl).trans rfl))) hS ?_
      intro hS
      refine D_pure (i := 5) (v := .int .i64 v3) rfl (by kernel_rfl) (W_none rfl) (fun _ => y_move (ev_tv rfl rfl)) hS ?_
      intro hS
      obtain ⟨b8, o9, rfl, H⟩ := H
      obtain ⟨hi25, hi26, H⟩ := H
      refine D_pure (i := 6) (v := .pointer (some ⟨b8, o9 + (v3 : Int).toNat, none⟩)) rfl (by kernel_rfl) (W_none rfl) (fun _ => y_ix1 Try.underlying34 Try.type3 rfl (ev_tv rfl rfl) (ev_tv rfl rfl) hi25 hi26) hS ?_
      intro hS
      obtain ⟨x10, hc27, H⟩ := H
      refine D_read (i := 3) (v := .int .i64 x10) rfl (by kernel_rfl) (W_none rfl) (fun wx => World.cell? wx ⟨b6, o7 + (v3 : Int).toNat, none⟩ = some (.int .i64 x10)) hc27 (fun _ hcx => y_load Try.underlying3 rfl (ev_tv rfl rfl) hcx) hS ?_
      intro hS
      obtain ⟨x11, hc28, H⟩ := H
      refine D_read (i := 7) (v := .int .i64 x11) rfl (by kernel_rfl) (W_none rfl) (fun wx => World.cell? wx ⟨b8, o9 + (v3 : Int).toNat, none⟩ = some (.int .i64 x11)) hc28 (fun _ hcx => y_load Try.underlying3 rfl (ev_tv rfl rfl) hcx) hS ?_
      intro hS
      refine D_pure (i := 8) (v := .bool (!decide ((x10 : Int) = x11))) rfl (by kernel_rfl) (W_none rfl) (fun _ => y_ine (ev_tv rfl rfl) (ev_tv rfl rfl)) hS ?_
      intro hS
      refine D_done (by kernel_rfl) ?_
      refine then_norm ?_
      refine hK22 _ _ ?_
      clear hK22
      rcases (Decidable.em ((x10 : Int) = x11)).symm with hb29 | hb29
      · replace H := H.1 hb29
        have hq30 : Value.bool (!decide ((x10 : Int) = x11)) = Value.bool true := congrArg Value.bool (ndec_t hb29)
        refine cond_t (ev_tv rfl hq30) ?_
        refine c_seq ?_
        intro K31 hK31
        refine c_region ?_
        refine L_val (v := .bool false) (y_assign ev_c) ?_
        refine l_nil ?_
        refine then_norm ?_
        refine hK31 _ _ ?_
        clear hK31
        refine c_ret ?_
        refine block_ret ?_
        refine then_ret ?_
        refine then_ret ?_
        refine block_ret ?_
        refine then_ret ?_
        exact body_1 rfl (ev_tv rfl rfl) H
      · replace H := H.2 hb29
        have hq30 : Value.bool (!decide ((x10 : Int) = x11)) = Value.bool false := congrArg Value.bool (ndec_f hb29)
        refine cond_f (ev_tv rfl hq30) ?_
        refine c_skip ?_
        refine block_norm ?_
        refine then_norm ?_
        refine hK20 _ _ ?_
        clear hK20
        refine c_region ?_
        obtain ⟨r12, hr32⟩ : ∃ r12 : Int, r12 = IntKind.wrap .i64 (v3 + 1) := ⟨_, rfl⟩
        replace H := H r12 hr32
        refine L_val (v := .int .i64 r12) (y_add (ev_tv rfl hs15) ev_c hr32) ?_
        refine L_val (v := .int .i64 r12) (y_move (ev_tv rfl rfl)) ?_
        refine l_nil ?_
        refine then_norm ?_
        obtain ⟨m13, hm33, H⟩ := H
        exact ⟨_, rfl, (by repeat (first | exact agree_refl | exact hag11 | refine agree_upd rfl ?_ | refine agree_via hag11 rfl ?_)), m13, hm33, _, rfl, H⟩
    · replace H := H.2 hb18
      have hq19 : Value.bool (decide ((v3 : Int) < ((a_a1l : Nat) : Int))) = Value.bool false := congrArg Value.bool (decide_eq_false hb18)
      refine cond_f (ev_tv rfl hq19) ?_
      refine c_exit ?_
      refine then_exit ?_
      refine then_exit ?_
      refine block_hit ?_
      refine then_norm ?_
      refine hK7 _ _ ?_
      clear hK7
      refine c_seq ?_
      intro K34 hK34
      refine c_region ?_
      refine L_val (v := .bool true) (y_assign ev_c) ?_
      refine l_nil ?_
      refine then_norm ?_
      refine hK34 _ _ ?_
      clear hK34
      refine c_ret ?_
      exact body_1 rfl (ev_tv rfl rfl) H

/-- (parapet/waitq.Queue).made -/
def Vc17 (a_q1 : Option Addr) (w : World) (R : Ending → World → Prop) : Prop :=
  (((a_q1 ≠ none) → (∃ (b2 o3 : Nat), a_q1 = some ⟨b2, o3, none⟩ ∧ (∃ x4 : Option Nat, World.cell? w ⟨b2, o3 + 1, none⟩ = some (.map x4) ∧ R (.returned (.bool (!x4.isNone))) w))) ∧ ((a_q1 = none) → R (.returned (.bool false)) w))

theorem vc17 {a_q1 : Option Addr} {w : World} {R : Ending → World → Prop} (H : Vc17 a_q1 w R) : Calls Try.prog 17 #[.pointer a_q1] w R := by
  unfold Vc17 at H
  refine calls_start [.pointer a_q1] Try.func17 rfl Try.ntmps17 rfl ?_
  refine c_seq ?_
  intro K1 hK1
  refine c_region ?_
  refine L_val (v := .bool false) (y_assign ev_c) ?_
  refine l_nil ?_
  refine then_norm ?_
  refine hK1 _ _ ?_
  clear hK1
  refine c_seq ?_
  intro K2 hK2
  refine c_region ?_
  refine L_val (v := .pointer a_q1) (y_move (ev_tv rfl rfl)) ?_
  refine L_val (v := .bool (!a_q1.isNone)) (y_pne Try.underlying23 (ev_tv rfl rfl) ev_c) ?_
  refine L_val (v := .bool (!a_q1.isNone)) (y_move (ev_tv rfl rfl)) ?_
  rcases (Classical.em (a_q1 ≠ none)) with hb3 | hb3
  · replace H := H.1 hb3
    have hq4 : Value.bool (!a_q1.isNone) = Value.bool true := congrArg Value.bool (nisn_t hb3)
    refine G_val (dj := 5) rfl rfl hq4 (v := .pointer a_q1) (y_move (ev_tv rfl rfl)) ?_
    obtain ⟨b2, o3, rfl, H⟩ := H
    refine G_val (dj := 5) rfl rfl hq4 (v := .pointer (some ⟨b2, o3, none⟩)) (y_nilCheck (ev_tv rfl rfl)) ?_
    refine G_val (dj := 5) rfl rfl hq4 (v := .pointer (some ⟨b2, o3 + 1, none⟩)) (Try.fa52_1 (ev_tv rfl rfl)) ?_
    obtain ⟨x4, hc5, H⟩ := H
    refine G_val (dj := 5) rfl rfl hq4 (v := .map x4) (y_load Try.underlying50 rfl (ev_tv rfl rfl) hc5) ?_
    refine G_val (dj := 5) rfl rfl hq4 (v := .bool (!x4.isNone)) (y_mne Try.underlying50 (ev_tv rfl rfl) ev_c) ?_
    refine L_val (v := .bool (!x4.isNone)) (y_pick_t (ev_tv rfl hq4) (ev_tv rfl rfl)) ?_
    refine L_val (v := .bool (!x4.isNone)) (y_assign (ev_tv rfl rfl)) ?_
    refine l_nil ?_
    refine then_norm ?_
    refine hK2 _ _ ?_
    clear hK2
    refine c_ret ?_
    exact body_1 rfl (ev_tv rfl rfl) H
  · replace hb3 : a_q1 = none := Classical.not_not.1 hb3
    replace H := H.2 hb3
    have hq4 : Value.bool (!a_q1.isNone) = Value.bool false := congrArg Value.bool (nisn_f hb3)
    refine G_not (b' := false) (dj := 5) rfl rfl hq4 rfl ?_
    refine G_not (b' := false) (dj := 5) rfl rfl hq4 rfl ?_
    refine G_not (b' := false) (dj := 5) rfl rfl hq4 rfl ?_
    refine G_not (b' := false) (dj := 5) rfl rfl hq4 rfl ?_
    refine G_not (b' := false) (dj := 5) rfl rfl hq4 rfl ?_
    refine L_val (v := .bool false) (y_pick_f (ev_tv rfl hq4) ev_c) ?_
    refine L_val (v := .bool false) (y_assign (ev_tv rfl rfl)) ?_
    refine l_nil ?_
    refine then_norm ?_
    refine hK2 _ _ ?_
    clear hK2
    refine c_ret ?_
    exact body_1 rfl (ev_tv rfl rfl) H

/-- slices.Contains[[]parapet/api.Chan,parapet/api.Chan] -/
def Vc18 (a_s1 : Option Addr) (a_s1l : Nat) (a_s1c : Nat) (a_v2 : Int) (a_v3 : Int) (a_v4 : Int) (w : World) (R : Ending → World → Prop) : Prop :=
  (∀ (b5 : Nat) (w6 : World), b5 = World.heapSize w → w6 = World.alloc w (.cells #[.int .i64 a_v2, .int .i64 a_v3, .int .i64 a_v4] 29) → (∃ x7 : Int, ∃ x8 : Int, ∃ x9 : Int, CellsAt w6 ⟨b5, 0, none⟩ [.int .i64 x7, .int .i64 x8, .int .i64 x9] ∧ (Calls Try.prog 22 #[.slice a_s1 a_s1l a_s1c, .agg #[.int .i64 x7, .int .i64 x8, .int .i64 x9]] w6 fun e w11 => ∃ x10 : Int, e = .returned (.int .i64 x10) ∧ R (.returned (.bool (decide ((0 : Int) ≤ x10)))) w11)))

theorem vc18 {a_s1 : Option Addr} {a_s1l : Nat} {a_s1c : Nat} {a_v2 : Int} {a_v3 : Int} {a_v4 : Int} {w : World} {R : Ending → World → Prop} (H : Vc18 a_s1 a_s1l a_s1c a_v2 a_v3 a_v4 w R) : Calls Try.prog 18 #[.slice a_s1 a_s1l a_s1c, .agg #[.int .i64 a_v2, .int .i64 a_v3, .int .i64 a_v4]] w R := by
  unfold Vc18 at H
  refine calls_start [.slice a_s1 a_s1l a_s1c, .agg #[.int .i64 a_v2, .int .i64 a_v3, .int .i64 a_v4]] Try.func18 rfl Try.ntmps18 rfl ?_
  refine c_seq ?_
  intro K1 hK1
  refine c_region ?_
  obtain ⟨b5, hb2⟩ : ∃ b5 : Nat, b5 = World.heapSize w := ⟨_, rfl⟩
  obtain ⟨w6, hw3⟩ : ∃ w6 : World, w6 = World.alloc w (.cells #[.int .i64 a_v2, .int .i64 a_v3, .int .i64 a_v4] 29) := ⟨_, rfl⟩
  replace H := H b5 w6 hb2 hw3
  refine L_val (v := .pointer (some ⟨b5, 0, none⟩)) (y_box (ev_tv rfl rfl) rfl hb2 hw3) ?_
  refine L_val (v := .bool false) (y_assign ev_c) ?_
  refine l_nil ?_
  refine then_norm ?_
  refine hK1 _ _ ?_
  clear hK1
  refine c_seq ?_
  intro K4 hK4
  refine c_region ?_
  refine L_val (v := .slice a_s1 a_s1l a_s1c) (y_move (ev_tv rfl rfl)) ?_
  obtain ⟨x7, x8, x9, hc5, H⟩ := H
  refine L_val (v := .agg #[.int .i64 x7, .int .i64 x8, .int .i64 x9]) (y_loadAgg Try.underlying29 rfl Try.type29 rfl (ev_tv rfl rfl) hc5) ?_
  refine L_call (y_call Try.call22 (map_ev2 (ev_tv rfl rfl) (ev_tv rfl rfl)) ev_f) (Calls.mono H ?_)
  clear H
  rintro _ w11 ⟨x10, rfl, H⟩
  refine ⟨_, rfl, ?_⟩
  refine L_val (v := .bool (decide ((0 : Int) ≤ x10))) (y_geq (ev_tv rfl rfl) ev_c) ?_
  refine L_val (v := .bool (decide ((0 : Int) ≤ x10))) (y_assign (ev_tv rfl rfl)) ?_
  refine l_nil ?_
  refine then_norm ?_
  refine hK4 _ _ ?_
  clear hK4
  refine c_ret ?_
  exact body_1 rfl (ev_tv rfl rfl) H

/-- slices.Clone[[]parapet/api.Chan,parapet/api.Chan] -/
def Vc19 (a_s1 : Option Addr) (a_s1l : Nat) (a_s1c : Nat) (w : World) (R : Ending → World → Prop) : Prop :=
  (((a_s1 = none) → R (.returned (.slice none 0 0)) w) ∧ ((a_s1 ≠ none) → (∀ (b2 : Nat) (w3 : World), b2 = World.heapSize w → w3 = World.alloc w (.cells #[] 29) → (∃ x5 : Option Addr, ∃ x5l : Nat, ∃ x5c : Nat, ∃ w4 : World, (Builtin.append_ #[27, 27] 27 #[.slice (some ⟨b2, 0, none⟩) 0 0, .slice a_s1 a_s1l a_s1c]).run Try.prog w3 = .ok (.slice x5 x5l x5c) w4 ∧ R (.returned (.slice x5 x5l x5c)) w4))))

theorem vc19 {a_s1 : Option Addr} {a_s1l : Nat} {a_s1c : Nat} {w : World} {R : Ending → World → Prop} (H : Vc19 a_s1 a_s1l a_s1c w R) : Calls Try.prog 19 #[.slice a_s1 a_s1l a_s1c] w R := by
  unfold Vc19 at H
  refine calls_start [.slice a_s1 a_s1l a_s1c] Try.func19 rfl Try.ntmps19 rfl ?_
  refine c_seq ?_
  intro K1 hK1
  refine c_region ?_
  refine L_val (v := .slice none 0 0) (y_assign ev_c) ?_
  refine l_nil ?_
  refine then_norm ?_
  refine hK1 _ _ ?_
  clear hK1
  refine c_seq ?_
  intro K2 hK2
  refine c_seq ?_
  intro K3 hK3
  refine c_region ?_
  refine L_val (v := .slice a_s1 a_s1l a_s1c) (y_move (ev_tv rfl rfl)) ?_
  refine L_val (v := .bool (a_s1.isNone)) (y_sleq Try.underlying27 (ev_tv rfl rfl) ev_c) ?_
  refine l_nil ?_
  refine then_norm ?_
  refine hK3 _ _ ?_
  clear hK3
  rcases (Classical.em (a_s1 = none)) with hb4 | hb4
  · replace H := H.1 hb4
    have hq5 : Value.bool (a_s1.isNone) = Value.bool true := congrArg Value.bool (isn_t hb4)
    refine cond_t (ev_tv rfl hq5) ?_
    refine c_seq ?_
    intro K6 hK6
    refine c_region ?_
    refine L_val (v := .slice none 0 0) (y_assign ev_c) ?_
    refine l_nil ?_
    refine then_norm ?_
    refine hK6 _ _ ?_
    clear hK6
    refine c_ret ?_
    refine then_ret ?_
    exact body_1 rfl (ev_tv rfl rfl) H
  · replace H := H.2 hb4
    have hq5 : Value.bool (a_s1.isNone) = Value.bool false := congrArg Value.bool (isn_f hb4)
    refine cond_f (ev_tv rfl hq5) ?_
    refine c_skip ?_
    refine then_norm ?_
    refine hK2 _ _ ?_
    clear hK2
    refine c_seq ?_
    intro K7 hK7
    refine c_region ?_
    obtain ⟨b2, hb8⟩ : ∃ b2 : Nat, b2 = World.heapSize w := ⟨_, rfl⟩
    obtain ⟨w3, hw9⟩ : ∃ w3 : World, w3 = World.alloc w (.cells #[] 29) := ⟨_, rfl⟩
    replace H := H b2 w3 hb8 hw9
    refine L_val (v := .slice (some ⟨b2, 0, none⟩) 0 0) (y_buildSlice rfl hb8 hw9 (by kernel_rfl)) ?_
    refine L_val (v := .slice a_s1 a_s1l a_s1c) (y_move (ev_tv rfl rfl)) ?_
    obtain ⟨x5, x5l, x5c, w4, hc10, H⟩ := H
    refine L_val (v := .slice x5 x5l x5c) (y_bi_append (map_ev2 (ev_tv rfl rfl) (ev_tv rfl rfl)) hc10) ?_
    refine L_val (v := .slice x5 x5l x5c) (y_assign (ev_tv rfl rfl)) ?_
    refine l_nil ?_
    refine then_norm ?_
    refine hK7 _ _ ?_
    clear hK7
    refine c_ret ?_
    exact body_1 rfl (ev_tv rfl rfl) H

/-- slices.Clone[[]int,int] -/
def Vc20 (a_s1 : Option Addr) (a_s1l : Nat) (a_s1c : Nat) (w : World) (R : Ending → World → Prop) : Prop :=
  (((a_s1 = none) → R (.returned (.slice none 0 0)) w) ∧ ((a_s1 ≠ none) → (∀ (b2 : Nat) (w3 : World), b2 = World.heapSize w → w3 = World.alloc w (.cells #[] 3) → (∃ x5 : Option Addr, ∃ x5l : Nat, ∃ x5c : Nat, ∃ w4 : World, (Builtin.append_ #[34, 34] 34 #[.slice (some ⟨b2, 0, none⟩) 0 0, .slice a_s1 a_s1l a_s1c]).run Try.prog w3 = .ok (.slice x5 x5l x5c) w4 ∧ R (.returned (.slice x5 x5l x5c)) w4))))

theorem vc20 {a_s1 : Option Addr} {a_s1l : Nat} {a_s1c : Nat} {w : World} {R : Ending → World → Prop} (H : Vc20 a_s1 a_s1l a_s1c w R) : Calls Try.prog 20 #[.slice a_s1 a_s1l a_s1c] w R := by
  unfold Vc20 at H
  refine calls_start [.slice a_s1 a_s1l a_s1c] Try.func20 rfl Try.ntmps20 rfl ?_
  refine c_seq ?_
  intro K1 hK1
  refine c_region ?_
  refine L_val (v := .slice none 0 0) (y_assign ev_c) ?_
  refine l_nil ?_
  refine then_norm ?_
  refine hK1 _ _ ?_
  clear hK1
  refine c_seq ?_
  intro K2 hK2
  refine c_seq ?_
  intro K3 hK3
  refine c_region ?_
  refine L_val (v := .slice a_s1 a_s1l a_s1c) (y_move (ev_tv rfl rfl)) ?_
  refine L_val (v := .bool (a_s1.isNone)) (y_sleq Try.underlying34 (ev_tv rfl rfl) ev_c) ?_
  refine l_nil ?_
  refine then_norm ?_
  refine hK3 _ _ ?_
  clear hK3
  rcases (Classical.em (a_s1 = none)) with hb4 | hb4
  · replace H := H.1 hb4
    have hq5 : Value.bool (a_s1.isNone) = Value.bool true := congrArg Value.bool (isn_t hb4)
    refine cond_t (ev_tv rfl hq5) ?_
    refine c_seq ?_
    intro K6 hK6
    refine c_region ?_
    refine L_val (v := .slice none 0 0) (y_assign ev_c) ?_
    refine l_nil ?_
    refine then_norm ?_
    refine hK6 _ _ ?_
    clear hK6
    refine c_ret ?_
    refine then_ret ?_
    exact body_1 rfl (ev_tv rfl rfl) H
  · replace H := H.2 hb4
    have hq5 : Value.bool (a_s1.isNone) = Value.bool false := congrArg Value.bool (isn_f hb4)
    refine cond_f (ev_tv rfl hq5) ?_
    refine c_skip ?_
    refine then_norm ?_
    refine hK2 _ _ ?_
    clear hK2
    refine c_seq ?_
    intro K7 hK7
    refine c_region ?_
    obtain ⟨b2, hb8⟩ : ∃ b2 : Nat, b2 = World.heapSize w := ⟨_, rfl⟩
    obtain ⟨w3, hw9⟩ : ∃ w3 : World, w3 = World.alloc w (.cells #[] 3) := ⟨_, rfl⟩
    replace H := H b2 w3 hb8 hw9
    refine L_val (v := .slice (some ⟨b2, 0, none⟩) 0 0) (y_buildSlice rfl hb8 hw9 (by kernel_rfl)) ?_
    refine L_val (v := .slice a_s1 a_s1l a_s1c) (y_move (ev_tv rfl rfl)) ?_
    obtain ⟨x5, x5l, x5c, w4, hc10, H⟩ := H
    refine L_val (v := .slice x5 x5l x5c) (y_bi_append (map_ev2 (ev_tv rfl rfl) (ev_tv rfl rfl)) hc10) ?_
    refine L_val (v := .slice x5 x5l x5c) (y_assign (ev_tv rfl rfl)) ?_
    refine l_nil ?_
    refine then_norm ?_
    refine hK7 _ _ ?_
    clear hK7
    refine c_ret ?_
    exact body_1 rfl (ev_tv rfl rfl) H

/-- (parapet/waitq.Queue).leave -/
def Vc21 (a_q1 : Option Addr) (a_tid2 : Int) (a_c3 : Int) (a_c4 : Int) (a_c5 : Int) (w : World) (R : Ending → World → Prop) : Prop :=
  (∀ (b6 : Nat) (w7 : World), b6 = World.heapSize w → w7 = World.alloc w (.cells #[.int .i64 a_tid2] 3) → (∀ (b8 : Nat) (w9 : World), b8 = World.heapSize w7 → w9 = World.alloc w7 (.cells #[.int .i64 a_c3, .int .i64 a_c4, .int .i64 a_c5] 29) → (∃ (b10 o11 : Nat), a_q1 = some ⟨b10, o11, none⟩ ∧ (∃ x12 : Option Nat, World.cell? (w9.drew) ⟨b10, o11, none⟩ = some (.map x12) ∧ (∃ x13 : Int, ∃ x14 : Int, ∃ x15 : Int, CellsAt (w9.drew) ⟨b8, 0, none⟩ [.int .i64 x13, .int .i64 x14, .int .i64 x15] ∧ (∃ x16 : Option Addr, ∃ x16l : Nat, ∃ x16c : Nat, (Instr.lookup 49 (.map x12) (.agg #[.int .i64 x13, .int .i64 x14, .int .i64 x15]) false).run Try.prog (w9.drew) = .ok (.slice x16 x16l x16c) (w9.drew) ∧ (Calls Try.prog 20 #[.slice x16 x16l x16c] (w9.drew) fun e w18 => ∃ x17 : Option Addr, ∃ x17l : Nat, ∃ x17c : Nat, e = .returned (.slice x17 x17l x17c) ∧ (CellsAt w18 ⟨b8, 0, none⟩ [.int .i64 x13, .int .i64 x14, .int .i64 x15] ∧ World.cell? w18 ⟨b10, o11, none⟩ = some (.map x12) ∧ (Calls Try.prog 34 #[.slice x17 x17l x17c, .func (.func 35) #[] #[.pointer (some ⟨b6, 0, none⟩)]] w18 fun e w20 => ∃ x19 : Option Addr, ∃ x19l : Nat, ∃ x19c : Nat, e = .returned (.slice x19 x19l x19c) ∧ (CellsAt w20 ⟨b8, 0, none⟩ [.int .i64 x13, .int .i64 x14, .int .i64 x15] ∧ World.cell? w20 ⟨b10, o11, none⟩ = some (.map x12) ∧ ((((((x19l : Nat) : Int) : Int) = 0) → (∃ x21 : Option Nat, World.cell? (w20.drew) ⟨b10, o11, none⟩ = some (.map x21) ∧ (∃ x22 : Int, ∃ x23 : Int, ∃ x24 : Int, CellsAt (w20.drew) ⟨b8, 0, none⟩ [.int .i64 x22, .int .i64 x23, .int .i64 x24] ∧ (∃ w25 : World, (Builtin.delete_ #[49, 29] 0 #[.map x21, .agg #[.int .i64 x22, .int .i64 x23, .int .i64 x24]]).run Try.prog (w20.drew) = .ok (.tuple #[]) w25 ∧ R (.returned (.tuple #[])) w25)))) ∧ ((¬ ((((x19l : Nat) : Int) : Int) = 0)) → (∃ x26 : Option Nat, World.cell? (w20.drew) ⟨b10, o11, none⟩ = some (.map x26) ∧ (∃ x27 : Int, ∃ x28 : Int, ∃ x29 : Int, CellsAt (w20.drew) ⟨b8, 0, none⟩ [.int .i64 x27, .int .i64 x28, .int .i64 x29] ∧ (∃ w30 : World, (Instr.mapUpdate 49 (.map x26) (.agg #[.int .i64 x27, .int .i64 x28, .int .i64 x29]) (.slice x19 x19l x19c)).run Try.prog (w20.drew) = .ok () w30 ∧ R (.returned (.tuple #[])) w30)))))))))))))))

theorem vc21 {a_q1 : Option Addr} {a_tid2 : Int} {a_c3 : Int} {a_c4 : Int} {a_c5 : Int} {w : World} {R : Ending → World → Prop} (H : Vc21 a_q1 a_tid2 a_c3 a_c4 a_c5 w R) : Calls Try.prog 21 #[.pointer a_q1, .int .i64 a_tid2, .agg #[.int .i64 a_c3, .int .i64 a_c4, .int .i64 a_c5]] w R := by
  unfold Vc21 at H
  refine calls_start [.pointer a_q1, .int .i64 a_tid2, .agg #[.int .i64 a_c3, .int .i64 a_c4, .int .i64 a_c5]] Try.func21 rfl Try.ntmps21 rfl ?_
  refine c_seq ?_
  intro K1 hK1
  refine c_region ?_
  obtain ⟨b6, hb2⟩ : ∃ b6 : Nat, b6 = World.heapSize w := ⟨_, rfl⟩
  obtain ⟨w7, hw3⟩ : ∃ w7 : World, w7 = World.alloc w (.cells #[.int .i64 a_tid2] 3) := ⟨_, rfl⟩
  replace H := H b6 w7 hb2 hw3
  refine L_val (v := .pointer (some ⟨b6, 0, none⟩)) (y_box (ev_tv rfl rfl) rfl hb2 hw3) ?_
  obtain ⟨b8, hb4⟩ : ∃ b8 : Nat, b8 = World.heapSize w7 := ⟨_, rfl⟩
  obtain ⟨w9, hw5⟩ : ∃ w9 : World, w9 = World.alloc w7 (.cells #[.int .i64 a_c3, .int .i64 a_c4, .int .i64 a_c5] 29) := ⟨_, rfl⟩
  replace H := H b8 w9 hb4 hw5
  refine L_val (v := .pointer (some ⟨b8, 0, none⟩)) (y_box (ev_tv rfl rfl) rfl hb4 hw5) ?_
  refine l_nil ?_
  refine then_norm ?_
  refine hK1 _ _ ?_
  clear hK1
  refine c_seq ?_
  intro K6 hK6
  refine D_start Try.mixed rfl [6, 8] ?_
  refine start_keep fun hS => ?_
  refine D_pure (i := 0) (v := .pointer a_q1) rfl (by kernel_rfl) (W_none rfl) (fun _ => y_move (ev_tv rfl rfl)) hS ?_
  intro hS
  obtain ⟨b10, o11, rfl, H⟩ := H
  refine D_pure (i := 1) (v := .pointer (some ⟨b10, o11, none⟩)) rfl (by kernel_rfl) (W_none rfl) (fun _ => y_nilCheck (ev_tv rfl rfl)) hS ?_
  intro hS
  refine D_pure (i := 2) (v := .pointer (some ⟨b10, o11, none⟩)) rfl (by kernel_rfl) (W_none rfl) (fun _ => Try.fa52_0 (ev_tv rfl rfl)) hS ?_
  intro hS
  refine D_pure (i := 7) (v := .func (.func 35) #[] #[.pointer (some ⟨b6, 0, none⟩)]) rfl (by kernel_rfl) (W_none rfl) (fun _ => y_makeFunc map_ev0 (map_ev1 (ev_tv rfl rfl))) hS ?_
  intro hS
  obtain ⟨x12, hc7, H⟩ := H
  refine D_read (i := 3) (v := .map x12) rfl (by kernel_rfl) (W_none rfl) (fun wx => World.cell? wx ⟨b10, o11, none⟩ = some (.map x12)) hc7 (fun _ hcx => y_load Try.underlying49 rfl (ev_tv rfl rfl) hcx) hS ?_
  intro hS
  obtain ⟨x13, x14, x15, hc8, H⟩ := H
  refine D_read (i := 4) (v := .agg #[.int .i64 x13, .int .i64 x14, .int .i64 x15]) rfl (by kernel_rfl) (W_none rfl) (fun wx => CellsAt wx ⟨b8, 0, none⟩ [.int .i64 x13, .int .i64 x14, .int .i64 x15]) hc8 (fun _ hcx => y_loadAgg Try.underlying29 rfl Try.type29 rfl (ev_tv rfl rfl) hcx) hS ?_
  intro hS
  obtain ⟨x16, x16l, x16c, hc9, H⟩ := H
  refine D_read (i := 5) (v := .slice x16 x16l x16c) rfl (by kernel_rfl) (W_none rfl) (fun wx => (Instr.lookup 49 (.map x12) (.agg #[.int .i64 x13, .int .i64 x14, .int .i64 x15]) false).run Try.prog wx = .ok (.slice x16 x16l x16c) wx) hc9 (fun _ hcx => y_lookup (ev_tv rfl rfl) (ev_tv rfl rfl) hcx) hS ?_
  intro hS
  refine D_only (i := 6) (by kernel_rfl) rfl ?_
  refine O_call (i := 6) rfl (W_none rfl) (y_call Try.call20 (map_ev1 (ev_tv rfl rfl)) ev_f) (Calls.mono H ?_)
  clear H
  rintro _ w18 ⟨x17, x17l, x17c, rfl, H⟩
  refine ⟨_, rfl, ?_⟩
  obtain ⟨hs23, hs24, H⟩ := H
  refine and_keep (SS_off (by kernel_rfl) (SS_on hs23 (SS_on hs24 SS_nil))) fun hS => ?_
  refine D_only (i := 8) (by kernel_rfl) rfl ?_
  refine O_call (i := 8) rfl (W_none rfl) (y_call Try.call34 (map_ev2 (ev_tv rfl rfl) (ev_tv rfl rfl)) ev_f) (Calls.mono H ?_)
  clear H
  rintro _ w20 ⟨x19, x19l, x19c, rfl, H⟩
  refine ⟨_, rfl, ?_⟩
  obtain ⟨hs21, hs22, H⟩ := H
  refine and_keep (SS_off (by kernel_rfl) (SS_on hs21 (SS_on hs22 SS_nil))) fun hS => ?_
  refine D_pure (i := 9) (v := .slice x19 x19l x19c) rfl (by kernel_rfl) (W_none rfl) (fun _ => y_assign (ev_tv rfl rfl)) hS ?_
  intro hS
  refine D_done (by kernel_rfl) ?_
  refine then_norm ?_
  refine hK6 _ _ ?_
  clear hK6
  refine c_seq ?_
  intro K10 hK10
  refine c_seq ?_
  intro K11 hK11
  refine c_region ?_
  refine L_val (v := .slice x19 x19l x19c) (y_move (ev_tv rfl rfl)) ?_
  refine L_val (v := .int .i64 ((x19l : Nat) : Int)) (y_len Try.underlying34 rfl (map_ev1 (ev_tv rfl rfl))) ?_
  refine L_val (v := .bool (decide ((((x19l : Nat) : Int) : Int) = 0))) (y_ieq (ev_tv rfl rfl) ev_c) ?_
  refine l_nil ?_
  refine then_norm ?_
  refine hK11 _ _ ?_
  clear hK11
  rcases (Decidable.em ((((x19l : Nat) : Int) : Int) = 0)) with hb12 | hb12
  · replace H := H.1 hb12
    have hq13 : Value.bool (decide ((((x19l : Nat) : Int) : Int) = 0)) = Value.bool true := congrArg Value.bool (decide_eq_true hb12)
    refine cond_t (ev_tv rfl hq13) ?_
    refine c_seq ?_
    intro K14 hK14
    refine D_start Try.mixed rfl [5] ?_
    refine start_keep fun hS => ?_
    refine D_pure (i := 0) (v := .pointer (some ⟨b10, o11, none⟩)) rfl (by kernel_rfl) (W_none rfl) (fun _ => y_move (ev_tv rfl rfl)) hS ?_
    intro hS
    refine D_pure (i := 1) (v := .pointer (some ⟨b10, o11, none⟩)) rfl (by kernel_rfl) (W_none rfl) (fun _ => y_nilCheck (ev_tv rfl rfl)) hS ?_
    intro hS
    refine D_pure (i := 2) (v := .pointer (some ⟨b10, o11, none⟩)) rfl (by kernel_rfl) (W_none rfl) (fun _ => Try.fa52_0 (ev_tv rfl rfl)) hS ?_
    intro hS
    obtain ⟨x21, hc15, H⟩ := H
    refine D_read (i := 3) (v := .map x21) rfl (by kernel_rfl) (W_none rfl) (fun wx => World.cell? wx ⟨b10, o11, none⟩ = some (.map x21)) hc15 (fun _ hcx => y_load Try.underlying49 rfl (ev_tv rfl rfl) hcx) hS ?_
    intro hS
    obtain ⟨x22, x23, x24, hc16, H⟩ := H
    refine D_read (i := 4) (v := .agg #[.int .i64 x22, .int .i64 x23, .int .i64 x24]) rfl (by kernel_rfl) (W_none rfl) (fun wx => CellsAt wx ⟨b8, 0, none⟩ [.int .i64 x22, .int .i64 x23, .int .i64 x24]) hc16 (fun _ hcx => y_loadAgg Try.underlying29 rfl Try.type29 rfl (ev_tv rfl rfl) hcx) hS ?_
    intro hS
    refine D_only (i := 5) (by kernel_rfl) rfl ?_
    obtain ⟨w25, hc17, H⟩ := H
    refine O_valn (i := 5) (v := .tuple #[]) rfl (W_none rfl) (y_bi_delete (map_ev2 (ev_tv rfl rfl) (ev_tv rfl rfl)) hc17) ?_
    refine and_keep (SS_off (by kernel_rfl) (SS_off (by kernel_rfl) SS_nil)) fun hS => ?_
    refine D_done (by kernel_rfl) ?_
    refine then_norm ?_
    refine hK14 _ _ ?_
    clear hK14
    refine c_ret ?_
    refine then_ret ?_
    exact body_0 rfl H
  · replace H := H.2 hb12
    have hq13 : Value.bool (decide ((((x19l : Nat) : Int) : Int) = 0)) = Value.bool false := congrArg Value.bool (decide_eq_false hb12)
    refine cond_f (ev_tv rfl hq13) ?_
    refine c_skip ?_
    refine then_norm ?_
    refine hK10 _ _ ?_
    clear hK10
    refine D_start Try.mixed rfl [6] ?_
    refine start_keep fun hS => ?_
    refine D_pure (i := 0) (v := .pointer (some ⟨b10, o11, none⟩)) rfl (by kernel_rfl) (W_none rfl) (fun _ => y_move (ev_tv rfl rfl)) hS ?_
    intro hS
    refine D_pure (i := 1) (v := .pointer (some ⟨b10, o11, none⟩)) rfl (by kernel_rfl) (W_none rfl) (fun _ => y_nilCheck (ev_tv rfl rfl)) hS ?_
    intro hS
    refine D_pure (i := 2) (v := .pointer (some ⟨b10, o11, none⟩)) rfl (by kernel_rfl) (W_none rfl) (fun _ => Try.fa52_0 (ev_tv rfl rfl)) hS ?_
    intro hS
    refine D_pure (i := 5) (v := .slice x19 x19l x19c) rfl (by kernel_rfl) (W_none rfl) (fun _ => y_move (ev_tv rfl rfl)) hS ?_
    intro hS
    obtain ⟨x26, hc18, H⟩ := H
    refine D_read (i := 3) (v := .map x26) rfl (by kernel_rfl) (W_none rfl) (fun wx => World.cell? wx ⟨b10, o11, none⟩ = some (.map x26)) hc18 (fun _ hcx => y_load Try.underlying49 rfl (ev_tv rfl rfl) hcx) hS ?_
    intro hS
    obtain ⟨x27, x28, x29, hc19, H⟩ := H
    refine D_read (i := 4) (v := .agg #[.int .i64 x27, .int .i64 x28, .int .i64 x29]) rfl (by kernel_rfl) (W_none rfl) (fun wx => CellsAt wx ⟨b8, 0, none⟩ [.int .i64 x27, .int .i64 x28, .int .i64 x29]) hc19 (fun _ hcx => y_loadAgg Try.underlying29 rfl Try.type29 rfl (ev_tv rfl rfl) hcx) hS ?_
    intro hS
    refine D_only (i := 6) (by kernel_rfl) rfl ?_
    obtain ⟨w30, hw20, H⟩ := H
    refine O_skip (i := 6) rfl (W_none rfl) (y_mapUpdate (ev_tv rfl rfl) (ev_tv rfl rfl) (ev_tv rfl rfl) hw20) ?_
    refine and_keep (SS_off (by kernel_rfl) (SS_off (by kernel_rfl) SS_nil)) fun hS => ?_
    refine D_done (by kernel_rfl) ?_
    refine body_norm ?_
    exact body_0 rfl H

/-- slices.Index[[]parapet/api.Chan,parapet/api.Chan] -/
def Vc22 (a_s1 : Option Addr) (a_s1l : Nat) (a_s1c : Nat) (a_v2 : Int) (a_v3 : Int) (a_v4 : Int) (w : World) (R : Ending → World → Prop) : Prop :=
  (∀ (b5 : Nat) (w6 : World), b5 = World.heapSize w → w6 = World.alloc w (.cells #[.int .i64 a_v2, .int .i64 a_v3, .int .i64 a_v4] 29) → (∃ I6 : Nat → Int → World → Prop, (∃ m, I6 m 0 w6) ∧ ∀ (m8 : Nat) (v7 : Int) (w9 : World), I6 m8 v7 w9 → ((((v7 : Int) < ((a_s1l : Nat) : Int)) → (∃ (b10 o11 : Nat), a_s1 = some ⟨b10, o11, none⟩ ∧ ((0 : Int) ≤ v7 ∧ v7 < ((a_s1l : Nat) : Int) ∧ (∃ x12 : Int, ∃ x13 : Int, ∃ x14 : Int, CellsAt (w9.drew) ⟨b5, 0, none⟩ [.int .i64 x12, .int .i64 x13, .int .i64 x14] ∧ (∃ x15 : Int, ∃ x16 : Int, ∃ x17 : Int, CellsAt (w9.drew) ⟨b10, o11 + (v7 : Int).toNat * 3, none⟩ [.int .i64 x15, .int .i64 x16, .int .i64 x17] ∧ (∃ q18 : Bool, (∀ w' : World, (eqGuard .eql 29 (.tmp 11) (.tmp 15) (.agg #[.int .i64 x12, .int .i64 x13, .int .i64 x14]) (.agg #[.int .i64 x15, .int .i64 x16, .int .i64 x17])).run Try.prog w' = .ok () w') ∧ (∀ w' : World, (binOp .eql 29 (.agg #[.int .i64 x12, .int .i64 x13, .int .i64 x14]) (.agg #[.int .i64 x15, .int .i64 x16, .int .i64 x17])).run Try.prog w' = .ok (.bool q18) w') ∧ (((q18 = true) → R (.returned (.int .i64 v7)) (w9.drew)) ∧ ((q18 = false) → (∀ r19 : Int, r19 = IntKind.wrap .i64 (v7 + 1) → (∃ m20, m20 < m8 ∧ I6 m20 r19 (w9.drew))))))))))) ∧ ((¬ ((v7 : Int) < ((a_s1l : Nat) : Int))) → R (.returned (.int .i64 (-1))) w9))))

theorem vc22 {a_s1 : Option Addr} {a_s1l : Nat} {a_s1c : Nat} {a_v2 : Int} {a_v3 : Int} {a_v4 : Int} {w : World} {R : Ending → World → Prop} (H : Vc22 a_s1 a_s1l a_s1c a_v2 a_v3 a_v4 w R) : Calls Try.prog 22 #[.slice a_s1 a_s1l a_s1c, .agg #[.int .i64 a_v2, .int .i64 a_v3, .int .i64 a_v4]] w R := by
  unfold Vc22 at H
  refine calls_start [.slice a_s1 a_s1l a_s1c, .agg #[.int .i64 a_v2, .int .i64 a_v3, .int .i64 a_v4]] Try.func22 rfl Try.ntmps22 rfl ?_
  refine c_seq ?_
  intro K1 hK1
  refine c_region ?_
  obtain ⟨b5, hb2⟩ : ∃ b5 : Nat, b5 = World.heapSize w := ⟨_, rfl⟩
  obtain ⟨w6, hw3⟩ : ∃ w6 : World, w6 = World.alloc w (.cells #[.int .i64 a_v2, .int .i64 a_v3, .int .i64 a_v4] 29) := ⟨_, rfl⟩
  replace H := H b5 w6 hb2 hw3
  refine L_val (v := .pointer (some ⟨b5, 0, none⟩)) (y_box (ev_tv rfl rfl) rfl hb2 hw3) ?_
  refine L_val (v := .int .i64 0) (y_assign ev_c) ?_
  refine l_nil ?_
  refine then_norm ?_
  refine hK1 _ _ ?_
  clear hK1
  refine c_seq ?_
  intro K4 hK4
  refine c_seq ?_
  intro K5 hK5
  refine c_region ?_
  refine L_val (v := .slice a_s1 a_s1l a_s1c) (y_move (ev_tv rfl rfl)) ?_
  refine L_val (v := .int .i64 ((a_s1l : Nat) : Int)) (y_len Try.underlying27 rfl (map_ev1 (ev_tv rfl rfl))) ?_
  refine L_val (v := .int .i64 0) (y_move ev_c) ?_
  refine l_nil ?_
  refine then_norm ?_
  refine hK5 _ _ ?_
  clear hK5
  refine c_block ?_
  obtain ⟨I6, ⟨m10, HI11⟩, H⟩ := H
  refine loop_fr ([(4, 5), (8, 18)]) (fun m ff ww => ∃ (v7 : Int), ff 8 = (.int .i64 v7 : Value) ∧ I6 m v7 ww) m10 ⟨0, rfl, HI11⟩ ?_
  rintro m8 f7 w9 hag8 ⟨v7, hs12, HI9⟩
  replace H := H m8 v7 w9 HI9
  refine c_seq ?_
  intro K13 hK13
  refine c_region ?_
  refine L_val (v := .bool (decide ((v7 : Int) < ((a_s1l : Nat) : Int)))) (y_lss (ev_tv rfl hs12) (ev_tv rfl ((hag8 7 rfl).trans rfl))) ?_
  refine l_nil ?_
  refine then_norm ?_
  refine hK13 _ _ ?_
  clear hK13
  refine c_seq ?_
  intro K14 hK14
  rcases (Decidable.em ((v7 : Int) < ((a_s1l : Nat) : Int))) with hb15 | hb15
  · replace H := H.1 hb15
    have hq16 : Value.bool (decide ((v7 : Int) < ((a_s1l : Nat) : Int))) = Value.bool true := congrArg Value.bool (decide_eq_true hb15)
    refine cond_t (ev_tv rfl hq16) ?_
    refine c_skip ?_
    refine then_norm ?_
    refine hK14 _ _ ?_
    clear hK14
    refine c_seq ?_
    intro K17 hK17
    refine c_block ?_
    refine c_seq ?_
    intro K18 hK18
    refine c_region ?_
    refine L_val (v := .int .i64 v7) (y_move (ev_tv rfl hs12)) ?_
    refine L_val (v := .int .i64 v7) (y_assign (ev_tv rfl rfl)) ?_
    refine l_nil ?_
    refine then_norm ?_
    refine hK18 _ _ ?_
    clear hK18
    refine c_seq ?_
    intro K19 hK19
    refine D_start Try.mixed rfl [] ?_
    refine start_keep fun hS => ?_
    refine D_pure (i := 1) (v := .slice a_s1 a_s1l a_s1c) rfl (by kernel_rfl) (W_none rfl) (fun _ => y_move (ev_tv rfl ((hag8 0 rfl).trans rfl))) hS ?_
    intro hS
    refine D_pure (i := 2) (v := .int .i64 v7) rfl (by kernel_rfl) (W_none rfl) (fun _ => y_move (ev_tv rfl rfl)) hS ?_
    intro hS
    obtain ⟨b10, o11, rfl, H⟩ := H
    obtain ⟨hi20, hi21, H⟩ := H
    refine D_pure (i := 3) (v := .pointer (some ⟨b10, o11 + (v7 : Int).toNat * 3, none⟩)) rfl (by kernel_rfl) (W_none rfl) (fun _ => y_ix Try.underlying27 Try.type29 rfl (ev_tv rfl rfl) (ev_tv rfl rfl) hi20 hi21) hS ?_
    intro hS
    obtain ⟨x12, x13, x14, hc22, H⟩ := H
    refine D_read (i := 0) (v := .agg #[.int .i64 x12, .int .i64 x13, .int .i64 x14]) rfl (by kernel_rfl) (W_none rfl) (fun wx => CellsAt wx ⟨b5, 0, none⟩ [.int .i64 x12, .int .i64 x13, .int .i64 x14]) hc22 (fun _ hcx => y_loadAgg Try.underlying29 rfl Try.type29 rfl (ev_tv rfl ((hag8 3 rfl).trans rfl)) hcx) hS ?_
    intro hS
    obtain ⟨x15, x16, x17, hc23, H⟩ := H
    refine D_read (i := 4) (v := .agg #[.int .i64 x15, .int .i64 x16, .int .i64 x17]) rfl (by kernel_rfl) (W_none rfl) (fun wx => CellsAt wx ⟨b10, o11 + (v7 : Int).toNat * 3, none⟩ [.int .i64 x15, .int .i64 x16, .int .i64 x17]) hc23 (fun _ hcx => y_loadAgg Try.underlying29 rfl Try.type29 rfl (ev_tv rfl rfl) hcx) hS ?_
    intro hS
    obtain ⟨q18, hg25, hc24, H⟩ := H
    refine D_pure (i := 5) (v := .bool q18) rfl (by kernel_rfl) (W_none rfl) (fun _ => y_eqv (ev_tv rfl rfl) (ev_tv rfl rfl) (hg25 _) (hc24 _)) hS ?_
    intro hS
    refine D_done (by kernel_rfl) ?_
    refine then_norm ?_
    refine hK19 _ _ ?_
    clear hK19
    rcases Bool.eq_false_or_eq_true q18 with hb26 | hb26
    · replace H := H.1 hb26
      have hq27 : Value.bool (q18) = Value.bool true := congrArg Value.bool hb26
      refine cond_t (ev_tv rfl hq27) ?_
      refine c_seq ?_
      intro K28 hK28
      refine c_region ?_
      refine L_val (v := .int .i64 v7) (y_move (ev_tv rfl rfl)) ?_
      refine L_val (v := .int .i64 v7) (y_assign (ev_tv rfl rfl)) ?_
      refine l_nil ?_
      refine then_norm ?_
      refine hK28 _ _ ?_
      clear hK28
      refine c_ret ?_
      refine block_ret ?_
      refine then_ret ?_
      refine then_ret ?_
      refine block_ret ?_
      refine then_ret ?_
      exact body_1 rfl (ev_tv rfl rfl) H
    · replace H := H.2 hb26
      have hq27 : Value.bool (q18) = Value.bool false := congrArg Value.bool hb26
      refine cond_f (ev_tv rfl hq27) ?_
      refine c_skip ?_
      refine block_norm ?_
      refine then_norm ?_
      refine hK17 _ _ ?_
      clear hK17
      refine c_region ?_
      obtain ⟨r19, hr29⟩ : ∃ r19 : Int, r19 = IntKind.wrap .i64 (v7 + 1) := ⟨_, rfl⟩
      replace H := H r19 hr29
      refine L_val (v := .int .i64 r19) (y_add (ev_tv rfl hs12) ev_c hr29) ?_
      refine L_val (v := .int .i64 r19) (y_move (ev_tv rfl rfl)) ?_
      refine l_nil ?_
      refine then_norm ?_
      obtain ⟨m20, hm30, H⟩ := H
      exact ⟨_, rfl, (by repeat (first | exact agree_refl | exact hag8 | refine agree_upd rfl ?_ | refine agree_via hag8 rfl ?_)), m20, hm30, _, rfl, H⟩
  · replace H := H.2 hb15
    have hq16 : Value.bool (decide ((v7 : Int) < ((a_s1l : Nat) : Int))) = Value.bool false := congrArg Value.bool (decide_eq_false hb15)
    refine cond_f (ev_tv rfl hq16) ?_
    refine c_exit ?_
    refine then_exit ?_
    refine then_exit ?_
    refine block_hit ?_
    refine then_norm ?_
    refine hK4 _ _ ?_
    clear hK4
    refine c_seq ?_
    intro K31 hK31
    refine c_region ?_
    refine L_val (v := .int .i64 (-1)) (y_assign ev_c) ?_
    refine l_nil ?_
    refine then_norm ?_
    refine hK31 _ _ ?_
    clear hK31
    refine c_ret ?_
    exact body_1 rfl (ev_tv rfl rfl) H

/-- slices.DeleteFunc[[]int,int] -/
def Vc34 (a_s1 : Option Addr) (a_s1l : Nat) (a_s1c : Nat) (a_del2 : Value) (w : World) (R : Ending → World → Prop) : Prop :=
  (Calls Try.prog 39 #[.slice a_s1 a_s1l a_s1c, a_del2] w fun e w4 => ∃ x3 : Int, e = .returned (.int .i64 x3) ∧ ((((x3 : Int) = (-1)) → R (.returned (.slice a_s1 a_s1l a_s1c)) w4) ∧ ((¬ ((x3 : Int) = (-1))) → (∃ J8 : Int → World → Prop, (∀ (v6 : Int) (w7 : World), J8 v6 w7 → ((0 : Int) ≤ v6 ∧ v6 ≤ ((a_s1l : Nat) : Int) ∧ ∀ a8 : Option Addr, a8 = subA a_s1 1 a_s1c (v6 : Int).toNat → (∃ w9 : World, (Builtin.clear_ #[34] 0 #[.slice a8 (a_s1l - (v6 : Int).toNat) (a_s1c - (v6 : Int).toNat)]).run Try.prog w7 = .ok (.tuple #[]) w9 ∧ ((0 : Int) ≤ v6 ∧ v6 ≤ ((a_s1c : Nat) : Int) ∧ ∀ a10 : Option Addr, a10 = a_s1 → R (.returned (.slice a10 ((v6 : Int).toNat) a_s1c)) w9)))) ∧ (∀ r11 : Int, r11 = IntKind.wrap .i64 (x3 + 1) → (∃ I26 : Nat → Int → Int → World → Prop, (∃ m, I26 m x3 r11 w4) ∧ ∀ (m14 : Nat) (v12 : Int) (v13 : Int) (w15 : World), I26 m14 v12 v13 w15 → ((((v13 : Int) < ((a_s1l : Nat) : Int)) → (∃ (b16 o17 : Nat), a_s1 = some ⟨b16, o17, none⟩ ∧ ((0 : Int) ≤ v13 ∧ v13 < ((a_s1l : Nat) : Int) ∧ (∃ x18 : Int, World.cell? w15 ⟨b16, o17 + (v13 : Int).toNat, none⟩ = some (.int .i64 x18) ∧ (Invoke Try.prog a_del2 #[.int .i64 x18] w15 fun e w20 => ∃ x19 : Bool, e = .returned (.bool x19) ∧ (((x19 = true) → (∀ r22 : Int, r22 = IntKind.wrap .i64 (v13 + 1) → (∃ m23, m23 < m14 ∧ I26 m23 v12 r22 w20))) ∧ ((x19 = false) → ((0 : Int) ≤ v12 ∧ v12 < ((a_s1l : Nat) : Int) ∧ ((World.cell? w20 ⟨b16, o17 + (v12 : Int).toNat, none⟩).isSome = true ∧ World.frozen? w20 ⟨b16, o17 + (v12 : Int).toNat, none⟩ = false ∧ ∀ w24 : World, w24 = World.setCell w20 ⟨b16, o17 + (v12 : Int).toNat, none⟩ (.int .i64 x18) → (∀ r25 : Int, r25 = IntKind.wrap .i64 (v12 + 1) → (∀ r26 : Int, r26 = IntKind.wrap .i64 (v13 + 1) → (∃ m27, m27 < m14 ∧ I26 m27 r25 r26 w24)))))))))))) ∧ ((¬ ((v13 : Int) < ((a_s1l : Nat) : Int))) → J8 v12 w15))))))))

theorem vc34 {a_s1 : Option Addr} {a_s1l : Nat} {a_s1c : Nat} {a_del2 : Value} {w : World} {R : Ending → World → Prop} (H : Vc34 a_s1 a_s1l a_s1c a_del2 w R) : Calls Try.prog 34 #[.slice a_s1 a_s1l a_s1c, a_del2] w R := by
  unfold Vc34 at H
  refine calls_start [.slice a_s1 a_s1l a_s1c, a_del2] Try.func34 rfl Try.ntmps34 rfl ?_
  refine c_seq ?_
  intro K1 hK1
  refine c_region ?_
  refine L_val (v := .slice none 0 0) (y_assign ev_c) ?_
  refine l_nil ?_
  refine then_norm ?_
  refine hK1 _ _ ?_
  clear hK1
  refine c_seq ?_
  intro K2 hK2
  refine c_region ?_
  refine L_val (v := .slice a_s1 a_s1l a_s1c) (y_move (ev_tv rfl rfl)) ?_
  refine L_val (v := a_del2) (y_move (ev_tv rfl rfl)) ?_
  refine L_call (y_call Try.call39 (map_ev2 (ev_tv rfl rfl) (ev_tv rfl rfl)) ev_f) (Calls.mono H ?_)
  clear H
  rintro _ w4 ⟨x3, rfl, H⟩
  refine ⟨_, rfl, ?_⟩
  refine L_val (v := .int .i64 x3) (y_assign (ev_tv rfl rfl)) ?_
  refine l_nil ?_
  refine then_norm ?_
  refine hK2 _ _ ?_
  clear hK2
  refine c_seq ?_
  intro K3 hK3
  refine c_seq ?_
  intro K4 hK4
  refine c_region ?_
  refine L_val (v := .int .i64 x3) (y_move (ev_tv rfl rfl)) ?_
  refine L_val (v := .bool (decide ((x3 : Int) = (-1)))) (y_ieq (ev_tv rfl rfl) ev_c) ?_
  refine l_nil ?_
  refine then_norm ?_
  refine hK4 _ _ ?_
  clear hK4
  rcases (Decidable.em ((x3 : Int) = (-1))) with hb5 | hb5
  · replace H := H.1 hb5
    have hq6 : Value.bool (decide ((x3 : Int) = (-1))) = Value.bool true := congrArg Value.bool (decide_eq_true hb5)
    refine cond_t (ev_tv rfl hq6) ?_
    refine c_seq ?_
    intro K7 hK7
    refine c_region ?_
    refine L_val (v := .slice a_s1 a_s1l a_s1c) (y_move (ev_tv rfl rfl)) ?_
    refine L_val (v := .slice a_s1 a_s1l a_s1c) (y_assign (ev_tv rfl rfl)) ?_
    refine l_nil ?_
    refine then_norm ?_
    refine hK7 _ _ ?_
    clear hK7
    refine c_ret ?_
    refine then_ret ?_
    exact body_1 rfl (ev_tv rfl rfl) H
  · replace H := H.2 hb5
    have hq6 : Value.bool (decide ((x3 : Int) = (-1))) = Value.bool false := congrArg Value.bool (decide_eq_false hb5)
    refine cond_f (ev_tv rfl hq6) ?_
    refine c_skip ?_
    refine then_norm ?_
    refine hK3 _ _ ?_
    clear hK3
    obtain ⟨J8, hJ9, H⟩ := H
    refine c_seqJ [(5, 7), (14, 35)] (fun ff ww => ∃ (v6 : Int), ff 5 = (.int .i64 v6 : Value) ∧ J8 v6 ww) ?_ ?_
    · clear hJ9
      intro K13 hK13
      refine c_seq ?_
      intro K24 hK24
      refine c_region ?_
      refine L_val (v := .int .i64 x3) (y_move (ev_tv rfl rfl)) ?_
      obtain ⟨r11, hr25⟩ : ∃ r11 : Int, r11 = IntKind.wrap .i64 (x3 + 1) := ⟨_, rfl⟩
      replace H := H r11 hr25
      refine L_val (v := .int .i64 r11) (y_add (ev_tv rfl rfl) ev_c hr25) ?_
      refine L_val (v := .int .i64 r11) (y_assign (ev_tv rfl rfl)) ?_
      refine l_nil ?_
      refine then_norm ?_
      refine hK24 _ _ ?_
      clear hK24
      refine c_block ?_
      obtain ⟨I26, ⟨m30, HI31⟩, H⟩ := H
      refine loop_fr ([(5, 7), (16, 35)]) (fun m ff ww => ∃ (v12 : Int) (v13 : Int), ff 5 = (.int .i64 v12 : Value) ∧ ff 6 = (.int .i64 v13 : Value) ∧ I26 m v12 v13 ww) m30 ⟨x3, r11, rfl, rfl, HI31⟩ ?_
      rintro m14 f27 w15 hag28 ⟨v12, v13, hs32, hs33, HI29⟩
      replace H := H m14 v12 v13 w15 HI29
      refine c_seq ?_
      intro K34 hK34
      refine c_seq ?_
      intro K35 hK35
      refine c_region ?_
      refine L_val (v := .int .i64 v13) (y_move (ev_tv rfl hs33)) ?_
      refine L_val (v := .slice a_s1 a_s1l a_s1c) (y_move (ev_tv rfl ((hag28 0 rfl).trans rfl))) ?_
      refine L_val (v := .int .i64 ((a_s1l : Nat) : Int)) (y_len Try.underlying34 rfl (map_ev1 (ev_tv rfl rfl))) ?_
      refine L_val (v := .bool (decide ((v13 : Int) < ((a_s1l : Nat) : Int)))) (y_lss (ev_tv rfl rfl) (ev_tv rfl rfl)) ?_
      refine l_nil ?_
      refine then_norm ?_
      refine hK35 _ _ ?_
      clear hK35
      rcases (Decidable.em ((v13 : Int) < ((a_s1l : Nat) : Int))) with hb36 | hb36
      · replace H := H.1 hb36
        have hq37 : Value.bool (decide ((v13 : Int) < ((a_s1l : Nat) : Int))) = Value.bool true := congrArg Value.bool (decide_eq_true hb36)
        refine cond_t (ev_tv rfl hq37) ?_
        refine c_skip ?_
        refine then_norm ?_
        refine hK34 _ _ ?_
        clear hK34
        refine c_seq ?_
        intro K38 hK38
        refine c_block ?_
        refine c_seq ?_
        intro K39 hK39
        refine c_region ?_
        refine L_val (v := .slice a_s1 a_s1l a_s1c) (y_move (ev_tv rfl ((hag28 0 rfl).trans rfl))) ?_
        refine L_val (v := .int .i64 v13) (y_move (ev_tv rfl hs33)) ?_
        obtain ⟨b16, o17, rfl, H⟩ := H
        obtain ⟨hi40, hi41, H⟩ := H
        refine L_val (v := .pointer (some ⟨b16, o17 + (v13 : Int).toNat, none⟩)) (y_ix1 Try.underlying34 Try.type3 rfl (ev_tv rfl rfl) (ev_tv rfl rfl) hi40 hi41) ?_
        obtain ⟨x18, hc42, H⟩ := H
        refine L_val (v := .int .i64 x18) (y_load Try.underlying3 rfl (ev_tv rfl rfl) hc42) ?_
        refine L_val (v := .int .i64 x18) (y_assign (ev_tv rfl rfl)) ?_
        refine l_nil ?_
        refine then_norm ?_
        refine hK39 _ _ ?_
        clear hK39
        refine c_seq ?_
        intro K43 hK43
        refine c_region ?_
        refine L_val (v := a_del2) (y_move (ev_tv rfl ((hag28 1 rfl).trans rfl))) ?_
        refine L_val (v := .int .i64 x18) (y_move (ev_tv rfl rfl)) ?_
        obtain ⟨khk57, firsthk57, caphk57, hi58, hk57, H⟩ := H
        refine L_call (y_callv hk57 (map_ev1 (ev_tv rfl rfl)) ((ev_tv rfl rfl).trans hi58)) (Calls.mono H ?_)
        clear H
        rintro _ w20 ⟨x19, rfl, H⟩
        refine ⟨_, rfl, ?_⟩
        rcases Bool.eq_false_or_eq_true x19 with hb44 | hb44
        · replace H := H.1 hb44
          have hq45 : Value.bool (x19) = Value.bool true := congrArg Value.bool hb44
          refine L_val (v := .bool false) (y_not_t (ev_tv rfl hq45)) ?_
          refine l_nil ?_
          refine then_norm ?_
          refine hK43 _ _ ?_
          clear hK43
          refine cond_f (ev_tv rfl rfl) ?_
          refine c_skip ?_
          refine block_norm ?_
          refine then_norm ?_
          refine hK38 _ _ ?_
          clear hK38
          refine c_region ?_
          refine L_val (v := .int .i64 v13) (y_move (ev_tv rfl hs33)) ?_
          obtain ⟨r22, hr46⟩ : ∃ r22 : Int, r22 = IntKind.wrap .i64 (v13 + 1) := ⟨_, rfl⟩
          replace H := H r22 hr46
          refine L_val (v := .int .i64 r22) (y_add (ev_tv rfl rfl) ev_c hr46) ?_
          refine L_val (v := .int .i64 r22) (y_assign (ev_tv rfl rfl)) ?_
          refine l_nil ?_
          refine then_norm ?_
          obtain ⟨m23, hm47, H⟩ := H
          exact ⟨_, rfl, (by repeat (first | exact agree_refl | exact hag28 | refine agree_upd rfl ?_ | refine agree_via hag28 rfl ?_)), m23, hm47, _, _, hs32, rfl, H⟩
        · replace H := H.2 hb44
          have hq45 : Value.bool (x19) = Value.bool false := congrArg Value.bool hb44
          refine L_val (v := .bool true) (y_not_f (ev_tv rfl hq45)) ?_
          refine l_nil ?_
          refine then_norm ?_
          refine hK43 _ _ ?_
          clear hK43
          refine cond_t (ev_tv rfl rfl) ?_
          refine c_seq ?_
          intro K48 hK48
          refine c_region ?_
          refine L_val (v := .slice (some ⟨b16, o17, none⟩) a_s1l a_s1c) (y_move (ev_tv rfl ((hag28 0 rfl).trans rfl))) ?_
          refine L_val (v := .int .i64 v12) (y_move (ev_tv rfl hs32)) ?_
          refine L_val (v := .int .i64 x18) (y_move (ev_tv rfl rfl)) ?_
          obtain ⟨hi49, hi50, H⟩ := H
          refine L_val (v := .pointer (some ⟨b16, o17 + (v12 : Int).toNat, none⟩)) (y_ix1 Try.underlying34 Try.type3 rfl (ev_tv rfl rfl) (ev_tv rfl rfl) hi49 hi50) ?_
          obtain ⟨hc51, hf52, H⟩ := H
          obtain ⟨w24, hw53⟩ : ∃ w24 : World, w24 = World.setCell w20 ⟨b16, o17 + (v12 : Int).toNat, none⟩ (.int .i64 x18) := ⟨_, rfl⟩
          replace H := H w24 hw53
          refine L_skip (y_store Try.type3 rfl rfl (ev_tv rfl rfl) (ev_tv rfl rfl) hc51 hf52 hw53) ?_
          refine l_nil ?_
          refine then_norm ?_
          refine hK48 _ _ ?_
          clear hK48
          refine c_region ?_
          refine L_val (v := .int .i64 v12) (y_move (ev_tv rfl hs32)) ?_
          obtain ⟨r25, hr54⟩ : ∃ r25 : Int, r25 = IntKind.wrap .i64 (v12 + 1) := ⟨_, rfl⟩
          replace H := H r25 hr54
          refine L_val (v := .int .i64 r25) (y_add (ev_tv rfl rfl) ev_c hr54) ?_
          refine L_val (v := .int .i64 r25) (y_assign (ev_tv rfl rfl)) ?_
          refine l_nil ?_
          refine block_norm ?_
          refine then_norm ?_
          refine hK38 _ _ ?_
          clear hK38
          refine c_region ?_
          refine L_val (v := .int .i64 v13) (y_move (ev_tv rfl hs33)) ?_
          obtain ⟨r26, hr55⟩ : ∃ r26 : Int, r26 = IntKind.wrap .i64 (v13 + 1) := ⟨_, rfl⟩
          replace H := H r26 hr55
          refine L_val (v := .int .i64 r26) (y_add (ev_tv rfl rfl) ev_c hr55) ?_
          refine L_val (v := .int .i64 r26) (y_assign (ev_tv rfl rfl)) ?_
          refine l_nil ?_
          refine then_norm ?_
          obtain ⟨m27, hm56, H⟩ := H
          exact ⟨_, rfl, (by repeat (first | exact agree_refl | exact hag28 | refine agree_upd rfl ?_ | refine agree_via hag28 rfl ?_)), m27, hm56, _, _, rfl, rfl, H⟩
      · replace H := H.2 hb36
        have hq37 : Value.bool (decide ((v13 : Int) < ((a_s1l : Nat) : Int))) = Value.bool false := congrArg Value.bool (decide_eq_false hb36)
        refine cond_f (ev_tv rfl hq37) ?_
        refine c_exit ?_
        refine then_exit ?_
        refine then_exit ?_
        refine block_hit ?_
        refine then_norm ?_
        exact hK13 _ _ (by repeat (first | exact agree_refl | exact hag28 | refine agree_upd rfl ?_ | refine agree_via hag28 rfl ?_)) ⟨_, hs32, H⟩
    · clear H
      rintro f10 w7 hag11 ⟨v6, hs14, HJ12⟩
      have H := hJ9 v6 w7 HJ12
      clear hJ9
      refine c_seq ?_
      intro K15 hK15
      refine c_region ?_
      refine L_val (v := .slice a_s1 a_s1l a_s1c) (y_move (ev_tv rfl ((hag11 0 rfl).trans rfl))) ?_
      refine L_val (v := .int .i64 v6) (y_move (ev_tv rfl hs14)) ?_
      obtain ⟨hi17, hi18, H⟩ := H
      obtain ⟨a8, ha16⟩ : ∃ a8 : Option Addr, a8 = subA a_s1 1 a_s1c (v6 : Int).toNat := ⟨_, rfl⟩
      replace H := H a8 ha16
      refine L_val (v := .slice a8 (a_s1l - (v6 : Int).toNat) (a_s1c - (v6 : Int).toNat)) (y_sliceL Try.underlying34 Try.type3 rfl (ev_tv rfl rfl) (ev_tv rfl rfl) hi17 hi18 ha16) ?_
      obtain ⟨w9, hc19, H⟩ := H
      refine L_valn (v := .tuple #[]) (y_bi_clear (map_ev1 (ev_tv rfl rfl)) hc19) ?_
      refine l_nil ?_
      refine then_norm ?_
      refine hK15 _ _ ?_
      clear hK15
      refine c_seq ?_
      intro K20 hK20
      refine c_region ?_
      refine L_val (v := .slice a_s1 a_s1l a_s1c) (y_move (ev_tv rfl ((hag11 0 rfl).trans rfl))) ?_
      refine L_val (v := .int .i64 v6) (y_move (ev_tv rfl hs14)) ?_
      obtain ⟨hi22, hi23, H⟩ := H
      obtain ⟨a10, ha21⟩ : ∃ a10 : Option Addr, a10 = a_s1 := ⟨_, rfl⟩
      replace H := H a10 ha21
      refine L_val (v := .slice a10 ((v6 : Int).toNat) a_s1c) (y_sliceH Try.underlying34 Try.type3 (ev_tv rfl rfl) (ev_tv rfl rfl) hi22 hi23 ha21) ?_
      refine L_val (v := .slice a10 ((v6 : Int).toNat) a_s1c) (y_assign (ev_tv rfl rfl)) ?_
      refine l_nil ?_
      refine then_norm ?_
      refine hK20 _ _ ?_
      clear hK20
      refine c_ret ?_
      exact body_1 rfl (ev_tv rfl rfl) H

/-- (parapet/waitq.Queue).leave$1 -/
def Vc35 (a_t1 : Int) (fv2 : Option Addr) (w : World) (R : Ending → World → Prop) : Prop :=
  (∃ (b3 o4 : Nat), fv2 = some ⟨b3, o4, none⟩ ∧ (∃ x5 : Int, World.cell? w ⟨b3, o4, none⟩ = some (.int .i64 x5) ∧ R (.returned (.bool (decide ((a_t1 : Int) = x5)))) w))

theorem vc35 {a_t1 : Int} {fv2 : Option Addr} {w : World} {R : Ending → World → Prop} (H : Vc35 a_t1 fv2 w R) : Calls Try.prog 35 #[.int .i64 a_t1, .pointer fv2] w R := by
  unfold Vc35 at H
  refine calls_start [.int .i64 a_t1, .pointer fv2] Try.func35 rfl Try.ntmps35 rfl ?_
  refine c_seq ?_
  intro K1 hK1
  refine c_region ?_
  refine L_val (v := .bool false) (y_assign ev_c) ?_
  refine l_nil ?_
  refine then_norm ?_
  refine hK1 _ _ ?_
  clear hK1
  refine c_seq ?_
  intro K2 hK2
  refine c_region ?_
  refine L_val (v := .int .i64 a_t1) (y_move (ev_tv rfl rfl)) ?_
  obtain ⟨b3, o4, rfl, H⟩ := H
  obtain ⟨x5, hc3, H⟩ := H
  refine L_val (v := .int .i64 x5) (y_load Try.underlying3 rfl (ev_tv rfl rfl) hc3) ?_
  refine L_val (v := .bool (decide ((a_t1 : Int) = x5))) (y_ieq (ev_tv rfl rfl) (ev_tv rfl rfl)) ?_
  refine L_val (v := .bool (decide ((a_t1 : Int) = x5))) (y_assign (ev_tv rfl rfl)) ?_
  refine l_nil ?_
  refine then_norm ?_
  refine hK2 _ _ ?_
  clear hK2
  refine c_ret ?_
  exact body_1 rfl (ev_tv rfl rfl) H

/-- slices.IndexFunc[[]int,int] -/
def Vc39 (a_s1 : Option Addr) (a_s1l : Nat) (a_s1c : Nat) (a_f2 : Value) (w : World) (R : Ending → World → Prop) : Prop :=
  (∃ I4 : Nat → Int → World → Prop, (∃ m, I4 m 0 w) ∧ ∀ (m4 : Nat) (v3 : Int) (w5 : World), I4 m4 v3 w5 → ((((v3 : Int) < ((a_s1l : Nat) : Int)) → (∃ (b6 o7 : Nat), a_s1 = some ⟨b6, o7, none⟩ ∧ ((0 : Int) ≤ v3 ∧ v3 < ((a_s1l : Nat) : Int) ∧ (∃ x8 : Int, World.cell? w5 ⟨b6, o7 + (v3 : Int).toNat, none⟩ = some (.int .i64 x8) ∧ (Invoke Try.prog a_f2 #[.int .i64 x8] w5 fun e w10 => ∃ x9 : Bool, e = .returned (.bool x9) ∧ (((x9 = true) → R (.returned (.int .i64 v3)) w10) ∧ ((x9 = false) → (∀ r12 : Int, r12 = IntKind.wrap .i64 (v3 + 1) → (∃ m13, m13 < m4 ∧ I4 m13 r12 w10))))))))) ∧ ((¬ ((v3 : Int) < ((a_s1l : Nat) : Int))) → R (.returned (.int .i64 (-1))) w5)))

theorem vc39 {a_s1 : Option Addr} {a_s1l : Nat} {a_s1c : Nat} {a_f2 : Value} {w : World} {R : Ending → World → Prop} (H : Vc39 a_s1 a_s1l a_s1c a_f2 w R) : Calls Try.prog 39 #[.slice a_s1 a_s1l a_s1c, a_f2] w R := by
  unfold Vc39 at H
  refine calls_start [.slice a_s1 a_s1l a_s1c, a_f2] Try.func39 rfl Try.ntmps39 rfl ?_
  refine c_seq ?_
  intro K1 hK1
  refine c_region ?_
  refine L_val (v := .int .i64 0) (y_assign ev_c) ?_
  refine l_nil ?_
  refine then_norm ?_
  refine hK1 _ _ ?_
  clear hK1
  refine c_seq ?_
  intro K2 hK2
  refine c_seq ?_
  intro K3 hK3
  refine c_region ?_
  refine L_val (v := .slice a_s1 a_s1l a_s1c) (y_move (ev_tv rfl rfl)) ?_
  refine L_val (v := .int .i64 ((a_s1l : Nat) : Int)) (y_len Try.underlying34 rfl (map_ev1 (ev_tv rfl rfl))) ?_
  refine L_val (v := .int .i64 0) (y_move ev_c) ?_
  refine l_nil ?_
  refine then_norm ?_
  refine hK3 _ _ ?_
  clear hK3
  refine c_block ?_
  obtain ⟨I4, ⟨m8, HI9⟩, H⟩ := H
  refine loop_fr ([(4, 5), (8, 18)]) (fun m ff ww => ∃ (v3 : Int), ff 8 = (.int .i64 v3 : Value) ∧ I4 m v3 ww) m8 ⟨0, rfl, HI9⟩ ?_
  rintro m4 f5 w5 hag6 ⟨v3, hs10, HI7⟩
  replace H := H m4 v3 w5 HI7
  refine c_seq ?_
  intro K11 hK11
  refine c_region ?_
  refine L_val (v := .bool (decide ((v3 : Int) < ((a_s1l : Nat) : Int)))) (y_lss (ev_tv rfl hs10) (ev_tv rfl ((hag6 7 rfl).trans rfl))) ?_
  refine l_nil ?_
  refine then_norm ?_
  refine hK11 _ _ ?_
  clear hK11
  refine c_seq ?_
  intro K12 hK12
  rcases (Decidable.em ((v3 : Int) < ((a_s1l : Nat) : Int))) with hb13 | hb13
  · replace H := H.1 hb13
    have hq14 : Value.bool (decide ((v3 : Int) < ((a_s1l : Nat) : Int))) = Value.bool true := congrArg Value.bool (decide_eq_true hb13)
    refine cond_t (ev_tv rfl hq14) ?_
    refine c_skip ?_
    refine then_norm ?_
    refine hK12 _ _ ?_
    clear hK12
    refine c_seq ?_
    intro K15 hK15
    refine c_block ?_
    refine c_seq ?_
    intro K16 hK16
    refine c_region ?_
    refine L_val (v := .int .i64 v3) (y_move (ev_tv rfl hs10)) ?_
    refine L_val (v := .int .i64 v3) (y_assign (ev_tv rfl rfl)) ?_
    refine l_nil ?_
    refine then_norm ?_
    refine hK16 _ _ ?_
    clear hK16
    refine c_seq ?_
    intro K17 hK17
    refine c_region ?_
    refine L_val (v := a_f2) (y_move (ev_tv rfl ((hag6 1 rfl).trans rfl))) ?_
    refine L_val (v := .slice a_s1 a_s1l a_s1c) (y_move (ev_tv rfl ((hag6 0 rfl).trans rfl))) ?_
    refine L_val (v := .int .i64 v3) (y_move (ev_tv rfl rfl)) ?_
    obtain ⟨b6, o7, rfl, H⟩ := H
    obtain ⟨hi18, hi19, H⟩ := H
    refine L_val (v := .pointer (some ⟨b6, o7 + (v3 : Int).toNat, none⟩)) (y_ix1 Try.underlying34 Try.type3 rfl (ev_tv rfl rfl) (ev_tv rfl rfl) hi18 hi19) ?_
    obtain ⟨x8, hc20, H⟩ := H
    refine L_val (v := .int .i64 x8) (y_load Try.underlying3 rfl (ev_tv rfl rfl) hc20) ?_
    obtain ⟨khk26, firsthk26, caphk26, hi27, hk26, H⟩ := H
    refine L_call (y_callv hk26 (map_ev1 (ev_tv rfl rfl)) ((ev_tv rfl rfl).trans hi27)) (Calls.mono H ?_)
    clear H
    rintro _ w10 ⟨x9, rfl, H⟩
    refine ⟨_, rfl, ?_⟩
    refine l_nil ?_
    refine then_norm ?_
    refine hK17 _ _ ?_
    clear hK17
    rcases Bool.eq_false_or_eq_true x9 with hb21 | hb21
    · replace H := H.1 hb21
      have hq22 : Value.bool (x9) = Value.bool true := congrArg Value.bool hb21
      refine cond_t (ev_tv rfl hq22) ?_
      refine c_seq ?_
      intro K23 hK23
      refine c_region ?_
      refine L_val (v := .int .i64 v3) (y_move (ev_tv rfl rfl)) ?_
      refine L_val (v := .int .i64 v3) (y_assign (ev_tv rfl rfl)) ?_
      refine l_nil ?_
      refine then_norm ?_
      refine hK23 _ _ ?_
      clear hK23
      refine c_ret ?_
      refine block_ret ?_
      refine then_ret ?_
      refine then_ret ?_
      refine block_ret ?_
      refine then_ret ?_
      exact body_1 rfl (ev_tv rfl rfl) H
    · replace H := H.2 hb21
      have hq22 : Value.bool (x9) = Value.bool false := congrArg Value.bool hb21
      refine cond_f (ev_tv rfl hq22) ?_
      refine c_skip ?_
      refine block_norm ?_
      refine then_norm ?_
      refine hK15 _ _ ?_
      clear hK15
      refine c_region ?_
      obtain ⟨r12, hr24⟩ : ∃ r12 : Int, r12 = IntKind.wrap .i64 (v3 + 1) := ⟨_, rfl⟩
      replace H := H r12 hr24
      refine L_val (v := .int .i64 r12) (y_add (ev_tv rfl hs10) ev_c hr24) ?_
      refine L_val (v := .int .i64 r12) (y_move (ev_tv rfl rfl)) ?_
      refine l_nil ?_
      refine then_norm ?_
      obtain ⟨m13, hm25, H⟩ := H
      exact ⟨_, rfl, (by repeat (first | exact agree_refl | exact hag6 | refine agree_upd rfl ?_ | refine agree_via hag6 rfl ?_)), m13, hm25, _, rfl, H⟩
  · replace H := H.2 hb13
    have hq14 : Value.bool (decide ((v3 : Int) < ((a_s1l : Nat) : Int))) = Value.bool false := congrArg Value.bool (decide_eq_false hb13)
    refine cond_f (ev_tv rfl hq14) ?_
    refine c_exit ?_
    refine then_exit ?_
    refine then_exit ?_
    refine block_hit ?_
    refine then_norm ?_
    refine hK2 _ _ ?_
    clear hK2
    refine c_seq ?_
    intro K28 hK28
    refine c_region ?_
    refine L_val (v := .int .i64 (-1)) (y_assign ev_c) ?_
    refine l_nil ?_
    refine then_norm ?_
    refine hK28 _ _ ?_
    clear hK28
    refine c_ret ?_
    exact body_1 rfl (ev_tv rfl rfl) H

end Go.Proofs.Ytmffnjdndhkbhaa
