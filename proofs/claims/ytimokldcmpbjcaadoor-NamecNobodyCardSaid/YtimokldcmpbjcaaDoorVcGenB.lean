/- For each Go function: what must be shown of it, and that this is enough. Printed by a program over the seat's translation. -/
import Derived.Test.YtimokldcmpbjcaaDoorVcGenA
namespace Go.Proofs.YtimokldcmpbjcaaDoor
open Go Go.Vc
set_option maxRecDepth 100000
set_option linter.unusedVariables false
set_option maxHeartbeats 2000000

/-- (parapet/parapetref19.Cache).Look -/
def Vc14 (a_c1 : Option Addr) (a_k2 : Int) (a_k3 : ByteArray) (w : World) (R : Ending → World → Prop) : Prop :=
  (∀ (b4 : Nat) (w5 : World), b4 = World.heapSize w → w5 = World.alloc w (.cells #[.int .i64 a_k2, .string a_k3] 42) → (∃ x6 : Int, ∃ x7 : ByteArray, CellsAt w5 ⟨b4, 0, none⟩ [.int .i64 x6, .string x7] ∧ (Calls Tryd.prog 35 #[.pointer a_c1, .agg #[.int .i64 x6, .string x7]] w5 fun e w9 => ∃ x8 : Int, e = .returned (.int .i64 x8) ∧ ((((x8 : Int) < 0) → R (.returned (.tuple #[.int .i64 0, .bool false])) w9) ∧ ((¬ ((x8 : Int) < 0)) → (∃ (b11 o12 : Nat), a_c1 = some ⟨b11, o12, none⟩ ∧ (∃ x13 : Option Addr, ∃ x13l : Nat, ∃ x13c : Nat, World.cell? w9 ⟨b11, o12 + 1, none⟩ = some (.slice x13 x13l x13c) ∧ (∃ (b14 o15 : Nat), x13 = some ⟨b14, o15, none⟩ ∧ ((0 : Int) ≤ x8 ∧ x8 < ((x13l : Nat) : Int) ∧ (∃ x16 : Int, World.cell? w9 ⟨b14, o15 + (x8 : Int).toNat * 4 + 2, none⟩ = some (.int .i64 x16) ∧ R (.returned (.tuple #[.int .i64 x16, .bool true])) w9))))))))))

theorem vc14 {a_c1 : Option Addr} {a_k2 : Int} {a_k3 : ByteArray} {w : World} {R : Ending → World → Prop} (H : Vc14 a_c1 a_k2 a_k3 w R) : Calls Tryd.prog 14 #[.pointer a_c1, .agg #[.int .i64 a_k2, .string a_k3]] w R := by
  unfold Vc14 at H
  refine calls_start [.pointer a_c1, .agg #[.int .i64 a_k2, .string a_k3]] Tryd.func14 rfl Tryd.ntmps14 rfl ?_
  refine c_seq ?_
  intro K1 hK1
  refine c_region ?_
  obtain ⟨b4, hb2⟩ : ∃ b4 : Nat, b4 = World.heapSize w := ⟨_, rfl⟩
  obtain ⟨w5, hw3⟩ : ∃ w5 : World, w5 = World.alloc w (.cells #[.int .i64 a_k2, .string a_k3] 42) := ⟨_, rfl⟩
  replace H := H b4 w5 hb2 hw3
  refine L_val (v := .pointer (some ⟨b4, 0, none⟩)) (y_box (ev_tv rfl rfl) rfl hb2 hw3) ?_
  refine L_val (v := .int .i64 0) (y_assign ev_c) ?_
  refine L_val (v := .bool false) (y_assign ev_c) ?_
  refine l_nil ?_
  refine then_norm ?_
  refine hK1 _ _ ?_
  clear hK1
  refine c_seq ?_
  intro K4 hK4
  refine c_region ?_
  refine L_val (v := .pointer a_c1) (y_move (ev_tv rfl rfl)) ?_
  obtain ⟨x6, x7, hc5, H⟩ := H
  refine L_val (v := .agg #[.int .i64 x6, .string x7]) (y_loadAgg Tryd.underlying42 rfl Tryd.type42 rfl (ev_tv rfl rfl) hc5) ?_
  refine L_call (y_call Tryd.call35 (map_ev2 (ev_tv rfl rfl) (ev_tv rfl rfl)) ev_f) (Calls.mono H ?_)
  clear H
  rintro _ w9 ⟨x8, rfl, H⟩
  refine ⟨_, rfl, ?_⟩
  refine L_val (v := .int .i64 x8) (y_assign (ev_tv rfl rfl)) ?_
  refine l_nil ?_
  refine then_norm ?_
  refine hK4 _ _ ?_
  clear hK4
  refine c_seq ?_
  intro K6 hK6
  refine c_seq ?_
  intro K7 hK7
  refine c_region ?_
  refine L_val (v := .int .i64 x8) (y_move (ev_tv rfl rfl)) ?_
  refine L_val (v := .bool (decide ((x8 : Int) < 0))) (y_lss (ev_tv rfl rfl) ev_c) ?_
  refine l_nil ?_
  refine then_norm ?_
  refine hK7 _ _ ?_
  clear hK7
  rcases (Decidable.em ((x8 : Int) < 0)) with hb8 | hb8
  · replace H := H.1 hb8
    have hq9 : Value.bool (decide ((x8 : Int) < 0)) = Value.bool true := congrArg Value.bool (decide_eq_true hb8)
    refine cond_t (ev_tv rfl hq9) ?_
    refine c_seq ?_
    intro K10 hK10
    refine c_region ?_
    refine L_val (v := .int .i64 0) (y_assign ev_c) ?_
    refine L_val (v := .bool false) (y_assign ev_c) ?_
    refine l_nil ?_
    refine then_norm ?_
    refine hK10 _ _ ?_
    clear hK10
    refine c_ret ?_
    refine then_ret ?_
    exact body_2 rfl (ev_tv rfl rfl) (ev_tv rfl rfl) H
  · replace H := H.2 hb8
    have hq9 : Value.bool (decide ((x8 : Int) < 0)) = Value.bool false := congrArg Value.bool (decide_eq_false hb8)
    refine cond_f (ev_tv rfl hq9) ?_
    refine c_skip ?_
    refine then_norm ?_
    refine hK6 _ _ ?_
    clear hK6
    refine c_seq ?_
    intro K11 hK11
    refine c_region ?_
    refine L_val (v := .pointer a_c1) (y_move (ev_tv rfl rfl)) ?_
    obtain ⟨b11, o12, rfl, H⟩ := H
    refine L_val (v := .pointer (some ⟨b11, o12, none⟩)) (y_nilCheck (ev_tv rfl rfl)) ?_
    refine L_val (v := .pointer (some ⟨b11, o12 + 1, none⟩)) (Tryd.fa40_1 (ev_tv rfl rfl)) ?_
    obtain ⟨x13, x13l, x13c, hc12, H⟩ := H
    refine L_val (v := .slice x13 x13l x13c) (y_load Tryd.underlying37 rfl (ev_tv rfl rfl) hc12) ?_
    refine L_val (v := .int .i64 x8) (y_move (ev_tv rfl rfl)) ?_
    obtain ⟨b14, o15, rfl, H⟩ := H
    obtain ⟨hi13, hi14, H⟩ := H
    refine L_val (v := .pointer (some ⟨b14, o15 + (x8 : Int).toNat * 4, none⟩)) (y_ix Tryd.underlying37 Tryd.type54 rfl (ev_tv rfl rfl) (ev_tv rfl rfl) hi13 hi14) ?_
    refine L_val (v := .pointer (some ⟨b14, o15 + (x8 : Int).toNat * 4 + 2, none⟩)) (Tryd.fa54_1 (ev_tv rfl rfl)) ?_
    obtain ⟨x16, hc15, H⟩ := H
    refine L_val (v := .int .i64 x16) (y_load Tryd.underlying3 rfl (ev_tv rfl rfl) hc15) ?_
    refine L_val (v := .int .i64 x16) (y_assign (ev_tv rfl rfl)) ?_
    refine L_val (v := .bool true) (y_assign ev_c) ?_
    refine l_nil ?_
    refine then_norm ?_
    refine hK11 _ _ ?_
    clear hK11
    refine c_ret ?_
    exact body_2 rfl (ev_tv rfl rfl) (ev_tv rfl rfl) H

/-- (parapet/namec.Cache).Put -/
def Vc15 (a_c1 : Option Addr) (a_k2 : Int) (a_k3 : ByteArray) (a_n4 : Int) (w : World) (R : Ending → World → Prop) : Prop :=
  (∀ (b5 : Nat) (w6 : World), b5 = World.heapSize w → w6 = World.alloc w (.cells #[.int .i64 a_k2, .string a_k3] 42) → (Calls Tryd.prog 34 #[.pointer a_c1] w6 fun e w8 => ∃ x7 : Bool, e = .returned (.bool x7) ∧ (((x7 = true) → ((((a_n4 : Int) < 0) → R (.returned (.int .i64 1)) w8) ∧ ((¬ ((a_n4 : Int) < 0)) → (∃ J13 : World → Prop, (∀  (w10 : World), J13  w10 → (∃ (b11 o12 : Nat), a_c1 = some ⟨b11, o12, none⟩ ∧ (∃ x13 : Int, World.cell? w10 ⟨b11, o12 + 4, none⟩ = some (.int .i64 x13) ∧ (∀ r14 : Int, r14 = IntKind.wrap .i64 (x13 + 1) → ((World.cell? w10 ⟨b11, o12 + 4, none⟩).isSome = true ∧ World.frozen? w10 ⟨b11, o12 + 4, none⟩ = false ∧ ∀ w15 : World, w15 = World.setCell w10 ⟨b11, o12 + 4, none⟩ (.int .i64 r14) → (∃ x16 : Option Nat, World.cell? (w15.drew) ⟨b11, o12 + 2, none⟩ = some (.map x16) ∧ (∃ x17 : Int, ∃ x18 : ByteArray, CellsAt (w15.drew) ⟨b5, 0, none⟩ [.int .i64 x17, .string x18] ∧ (∃ x19 : Int, World.cell? (w15.drew) ⟨b11, o12 + 4, none⟩ = some (.int .i64 x19) ∧ (∃ w20 : World, (Instr.mapUpdate 76 (.map x16) (.agg #[.int .i64 x17, .string x18]) (.agg #[.int .i64 a_n4, .int .i64 x19])).run Tryd.prog (w15.drew) = .ok () w20 ∧ (∃ x21 : Option Addr, ∃ x21l : Nat, ∃ x21c : Nat, World.cell? (w20.drew) ⟨b11, o12 + 3, none⟩ = some (.slice x21 x21l x21c) ∧ (∃ x22 : Int, ∃ x23 : ByteArray, CellsAt (w20.drew) ⟨b5, 0, none⟩ [.int .i64 x22, .string x23] ∧ (∀ (b24 : Nat) (w25 : World), b24 = World.heapSize (w20.drew) → w25 = World.alloc (w20.drew) (.cells #[.int .i64 x22, .string x23] 42) → (World.cell? w25 ⟨b11, o12 + 3, none⟩ = some (.slice x21 x21l x21c) ∧ (∃ x27 : Option Addr, ∃ x27l : Nat, ∃ x27c : Nat, ∃ w26 : World, (Builtin.append_ #[51, 51] 51 #[.slice x21 x21l x21c, .slice (some ⟨b24, 0, none⟩) 1 1]).run Tryd.prog w25 = .ok (.slice x27 x27l x27c) w26 ∧ ((World.cell? w26 ⟨b11, o12 + 3, none⟩).isSome = true ∧ World.frozen? w26 ⟨b11, o12 + 3, none⟩ = false ∧ ∀ w28 : World, w28 = World.setCell w26 ⟨b11, o12 + 3, none⟩ (.slice x27 x27l x27c) → R (.returned (.int .i64 0)) w28))))))))))))))) ∧ (∃ J41 : Bool → World → Prop, (∀ (v29 : Bool) (w30 : World), J41 v29 w30 → (((v29 = true) → (∃ (b31 o32 : Nat), a_c1 = some ⟨b31, o32, none⟩ ∧ (∃ x33 : Option Addr, ∃ x33l : Nat, ∃ x33c : Nat, World.cell? w30 ⟨b31, o32 + 3, none⟩ = some (.slice x33 x33l x33c) ∧ (∃ (b34 o35 : Nat), x33 = some ⟨b34, o35, none⟩ ∧ ((0 : Int) ≤ 0 ∧ 0 < ((x33l : Nat) : Int) ∧ (∃ x36 : Int, ∃ x37 : ByteArray, CellsAt w30 ⟨b34, o35 + (0 : Int).toNat * 2, none⟩ [.int .i64 x36, .string x37] ∧ (Calls Tryd.prog 17 #[.pointer (some ⟨b31, o32, none⟩), .agg #[.int .i64 x36, .string x37]] w30 fun e w39 => ∃ x38 : Bool, e = .returned (.bool x38) ∧ J13  w39))))))) ∧ ((v29 = false) → J13  w30))) ∧ (∃ x41 : Int, ∃ x42 : ByteArray, CellsAt (w8.drew) ⟨b5, 0, none⟩ [.int .i64 x41, .string x42] ∧ (Calls Tryd.prog 17 #[.pointer a_c1, .agg #[.int .i64 x41, .string x42]] (w8.drew) fun e w44 => ∃ x43 : Bool, e = .returned (.bool x43) ∧ (((x43 = true) → J41 false w44) ∧ ((x43 = false) → (∃ (b45 o46 : Nat), a_c1 = some ⟨b45, o46, none⟩ ∧ (∃ x47 : Option Addr, ∃ x47l : Nat, ∃ x47c : Nat, World.cell? w44 ⟨b45, o46 + 3, none⟩ = some (.slice x47 x47l x47c) ∧ (∃ x48 : Int, World.cell? w44 ⟨b45, o46 + 1, none⟩ = some (.int .i64 x48) ∧ J41 (decide ((x48 : Int) ≤ ((x47l : Nat) : Int))) w44)))))))))))) ∧ ((x7 = false) → R (.returned (.int .i64 6)) w8))))

theorem vc15 {a_c1 : Option Addr} {a_k2 : Int} {a_k3 : ByteArray} {a_n4 : Int} {w : World} {R : Ending → World → Prop} (H : Vc15 a_c1 a_k2 a_k3 a_n4 w R) : Calls Tryd.prog 15 #[.pointer a_c1, .agg #[.int .i64 a_k2, .string a_k3], .int .i64 a_n4] w R := by
  unfold Vc15 at H
  refine calls_start [.pointer a_c1, .agg #[.int .i64 a_k2, .string a_k3], .int .i64 a_n4] Tryd.func15 rfl Tryd.ntmps15 rfl ?_
  refine c_seq ?_
  intro K1 hK1
  refine c_region ?_
  obtain ⟨b5, hb2⟩ : ∃ b5 : Nat, b5 = World.heapSize w := ⟨_, rfl⟩
  obtain ⟨w6, hw3⟩ : ∃ w6 : World, w6 = World.alloc w (.cells #[.int .i64 a_k2, .string a_k3] 42) := ⟨_, rfl⟩
  replace H := H b5 w6 hb2 hw3
  refine L_val (v := .pointer (some ⟨b5, 0, none⟩)) (y_box (ev_tv rfl rfl) rfl hb2 hw3) ?_
  refine L_val (v := .int .i64 0) (y_assign ev_c) ?_
  refine l_nil ?_
  refine then_norm ?_
  refine hK1 _ _ ?_
  clear hK1
  refine c_seq ?_
  intro K4 hK4
  refine c_seq ?_
  intro K5 hK5
  refine c_region ?_
  refine L_val (v := .pointer a_c1) (y_move (ev_tv rfl rfl)) ?_
  refine L_call (y_call Tryd.call34 (map_ev1 (ev_tv rfl rfl)) ev_f) (Calls.mono H ?_)
  clear H
  rintro _ w8 ⟨x7, rfl, H⟩
  refine ⟨_, rfl, ?_⟩
  rcases Bool.eq_false_or_eq_true x7 with hb6 | hb6
  · replace H := H.1 hb6
    have hq7 : Value.bool (x7) = Value.bool true := congrArg Value.bool hb6
    refine L_val (v := .bool false) (y_not_t (ev_tv rfl hq7)) ?_
    refine l_nil ?_
    refine then_norm ?_
    refine hK5 _ _ ?_
    clear hK5
    refine cond_f (ev_tv rfl rfl) ?_
    refine c_skip ?_
    refine then_norm ?_
    refine hK4 _ _ ?_
    clear hK4
    refine c_seq ?_
    intro K8 hK8
    refine c_seq ?_
    intro K9 hK9
    refine c_region ?_
    refine L_val (v := .int .i64 a_n4) (y_move (ev_tv rfl rfl)) ?_
    refine L_val (v := .bool (decide ((a_n4 : Int) < 0))) (y_lss (ev_tv rfl rfl) ev_c) ?_
    refine l_nil ?_
    refine then_norm ?_
    refine hK9 _ _ ?_
    clear hK9
    rcases (Decidable.em ((a_n4 : Int) < 0)) with hb10 | hb10
    · replace H := H.1 hb10
      have hq11 : Value.bool (decide ((a_n4 : Int) < 0)) = Value.bool true := congrArg Value.bool (decide_eq_true hb10)
      refine cond_t (ev_tv rfl hq11) ?_
      refine c_seq ?_
      intro K12 hK12
      refine c_region ?_
      refine L_val (v := .int .i64 1) (y_assign ev_c) ?_
      refine l_nil ?_
      refine then_norm ?_
      refine hK12 _ _ ?_
      clear hK12
      refine c_ret ?_
      refine then_ret ?_
      exact body_1 rfl (ev_tv rfl rfl) H
    · replace H := H.2 hb10
      have hq11 : Value.bool (decide ((a_n4 : Int) < 0)) = Value.bool false := congrArg Value.bool (decide_eq_false hb10)
      refine cond_f (ev_tv rfl hq11) ?_
      refine c_skip ?_
      refine then_norm ?_
      refine hK8 _ _ ?_
      clear hK8
      obtain ⟨J13, hJ14, H⟩ := H
      refine c_seqJ [(12, 35)] (fun ff ww => J13  ww) ?_ ?_
      · clear hJ14
        intro K18 hK18
        obtain ⟨J41, hJ42, H⟩ := H
        refine c_seqJ [(12, 27)] (fun ff ww => ∃ (v29 : Bool), ff 27 = (.bool v29 : Value) ∧ J41 v29 ww) ?_ ?_
        · clear hJ42
          intro K46 hK46
          refine D_start Tryd.mixed rfl [2] ?_
          refine start_keep fun hS => ?_
          refine D_pure (i := 0) (v := .pointer a_c1) rfl (by kernel_rfl) (W_none rfl) (fun _ => y_move (ev_tv rfl rfl)) hS ?_
          intro hS
          obtain ⟨x41, x42, hc54, H⟩ := H
          refine D_read (i := 1) (v := .agg #[.int .i64 x41, .string x42]) rfl (by kernel_rfl) (W_none rfl) (fun wx => CellsAt wx ⟨b5, 0, none⟩ [.int .i64 x41, .string x42]) hc54 (fun _ hcx => y_loadAgg Tryd.underlying42 rfl Tryd.type42 rfl (ev_tv rfl rfl) hcx) hS ?_
          intro hS
          refine D_only (i := 2) (by kernel_rfl) rfl ?_
          refine O_call (i := 2) rfl (W_none rfl) (y_call Tryd.call17 (map_ev2 (ev_tv rfl rfl) (ev_tv rfl rfl)) ev_f) (Calls.mono H ?_)
          clear H
          rintro _ w44 ⟨x43, rfl, H⟩
          refine ⟨_, rfl, ?_⟩
          refine and_keep (SS_off (by kernel_rfl) SS_nil) fun hS => ?_
          rcases Bool.eq_false_or_eq_true x43 with hb55 | hb55
          · replace H := H.1 hb55
            have hq56 : Value.bool (x43) = Value.bool true := congrArg Value.bool hb55
            refine D_pure (i := 3) (v := .bool false) rfl (by kernel_rfl) (W_none rfl) (fun _ => y_not_t (ev_tv rfl hq56)) hS ?_
            intro hS
            refine D_pure (i := 4) (v := .bool false) rfl (by kernel_rfl) (W_none rfl) (fun _ => y_move (ev_tv rfl rfl)) hS ?_
            intro hS
            refine D_not (i := 5) rfl (by kernel_rfl) (W_no (dj := 16) (b' := false) rfl rfl rfl rfl rfl) hS ?_
            intro hS
            refine D_not (i := 6) rfl (by kernel_rfl) (W_no (dj := 16) (b' := false) rfl rfl rfl rfl rfl) hS ?_
            intro hS
            refine D_not (i := 7) rfl (by kernel_rfl) (W_no (dj := 16) (b' := false) rfl rfl rfl rfl rfl) hS ?_
            intro hS
            refine D_not (i := 8) rfl (by kernel_rfl) (W_no (dj := 16) (b' := false) rfl rfl rfl rfl rfl) hS ?_
            intro hS
            refine D_not (i := 9) rfl (by kernel_rfl) (W_no (dj := 16) (b' := false) rfl rfl rfl rfl rfl) hS ?_
            intro hS
            refine D_not (i := 10) rfl (by kernel_rfl) (W_no (dj := 16) (b' := false) rfl rfl rfl rfl rfl) hS ?_
            intro hS
            refine D_not (i := 11) rfl (by kernel_rfl) (W_no (dj := 16) (b' := false) rfl rfl rfl rfl rfl) hS ?_
            intro hS
            refine D_not (i := 12) rfl (by kernel_rfl) (W_no (dj := 16) (b' := false) rfl rfl rfl rfl rfl) hS ?_
            intro hS
            refine D_not (i := 13) rfl (by kernel_rfl) (W_no (dj := 16) (b' := false) rfl rfl rfl rfl rfl) hS ?_
            intro hS
            refine D_not (i := 14) rfl (by kernel_rfl) (W_no (dj := 16) (b' := false) rfl rfl rfl rfl rfl) hS ?_
            intro hS
            refine D_pure (i := 15) (v := .bool false) rfl (by kernel_rfl) (W_none rfl) (fun _ => y_pick_f (ev_tv rfl rfl) ev_c) hS ?_
            intro hS
            refine D_done (by kernel_rfl) ?_
            refine then_norm ?_
            exact hK46 _ _ (by repeat (first | exact agree_refl | refine agree_upd rfl ?_)) ⟨_, rfl, H⟩
          · replace H := H.2 hb55
            have hq56 : Value.bool (x43) = Value.bool false := congrArg Value.bool hb55
            refine D_pure (i := 3) (v := .bool true) rfl (by kernel_rfl) (W_none rfl) (fun _ => y_not_f (ev_tv rfl hq56)) hS ?_
            intro hS
            refine D_pure (i := 4) (v := .bool true) rfl (by kernel_rfl) (W_none rfl) (fun _ => y_move (ev_tv rfl rfl)) hS ?_
            intro hS
            refine D_pure (i := 5) (v := .pointer a_c1) rfl (by kernel_rfl) (W_yes (dj := 16) rfl rfl rfl rfl) (fun _ => y_move (ev_tv rfl rfl)) hS ?_
            intro hS
            obtain ⟨b45, o46, rfl, H⟩ := H
            refine D_pure (i := 6) (v := .pointer (some ⟨b45, o46, none⟩)) rfl (by kernel_rfl) (W_yes (dj := 16) rfl rfl rfl rfl) (fun _ => y_nilCheck (ev_tv rfl rfl)) hS ?_
            intro hS
            refine D_pure (i := 7) (v := .pointer (some ⟨b45, o46 + 3, none⟩)) rfl (by kernel_rfl) (W_yes (dj := 16) rfl rfl rfl rfl) (fun _ => Tryd.fa78_3 (ev_tv rfl rfl)) hS ?_
            intro hS
            refine D_pure (i := 10) (v := .pointer (some ⟨b45, o46, none⟩)) rfl (by kernel_rfl) (W_yes (dj := 16) rfl rfl rfl rfl) (fun _ => y_move (ev_tv rfl rfl)) hS ?_
            intro hS
            refine D_pure (i := 11) (v := .pointer (some ⟨b45, o46, none⟩)) rfl (by kernel_rfl) (W_yes (dj := 16) rfl rfl rfl rfl) (fun _ => y_nilCheck (ev_tv rfl rfl)) hS ?_
            intro hS
            refine D_pure (i := 12) (v := .pointer (some ⟨b45, o46 + 1, none⟩)) rfl (by kernel_rfl) (W_yes (dj := 16) rfl rfl rfl rfl) (fun _ => Tryd.fa78_1 (ev_tv rfl rfl)) hS ?_
            intro hS
            obtain ⟨x47, x47l, x47c, hc57, H⟩ := H
            refine D_read (i := 8) (v := .slice x47 x47l x47c) rfl (by kernel_rfl) (W_yes (dj := 16) rfl rfl rfl rfl) (fun wx => World.cell? wx ⟨b45, o46 + 3, none⟩ = some (.slice x47 x47l x47c)) hc57 (fun _ hcx => y_load Tryd.underlying51 rfl (ev_tv rfl rfl) hcx) hS ?_
            intro hS
            refine D_pure (i := 9) (v := .int .i64 ((x47l : Nat) : Int)) rfl (by kernel_rfl) (W_yes (dj := 16) rfl rfl rfl rfl) (fun _ => y_len Tryd.underlying51 rfl (map_ev1 (ev_tv rfl rfl))) hS ?_
            intro hS
            obtain ⟨x48, hc58, H⟩ := H
            refine D_read (i := 13) (v := .int .i64 x48) rfl (by kernel_rfl) (W_yes (dj := 16) rfl rfl rfl rfl) (fun wx => World.cell? wx ⟨b45, o46 + 1, none⟩ = some (.int .i64 x48)) hc58 (fun _ hcx => y_load Tryd.underlying3 rfl (ev_tv rfl rfl) hcx) hS ?_
            intro hS
            refine D_pure (i := 14) (v := .bool (decide ((x48 : Int) ≤ ((x47l : Nat) : Int)))) rfl (by kernel_rfl) (W_yes (dj := 16) rfl rfl rfl rfl) (fun _ => y_geq (ev_tv rfl rfl) (ev_tv rfl rfl)) hS ?_
            intro hS
            refine D_pure (i := 15) (v := .bool (decide ((x48 : Int) ≤ ((x47l : Nat) : Int)))) rfl (by kernel_rfl) (W_none rfl) (fun _ => y_pick_t (ev_tv rfl rfl) (ev_tv rfl rfl)) hS ?_
            intro hS
            refine D_done (by kernel_rfl) ?_
            refine then_norm ?_
            exact hK46 _ _ (by repeat (first | exact agree_refl | refine agree_upd rfl ?_)) ⟨_, rfl, H⟩
        · clear H
          rintro f43 w30 hag44 ⟨v29, hs47, HJ45⟩
          have H := hJ42 v29 w30 HJ45
          clear hJ42
          rcases Bool.eq_false_or_eq_true v29 with hb48 | hb48
          · replace H := H.1 hb48
            have hq49 : Value.bool (v29) = Value.bool true := congrArg Value.bool hb48
            refine cond_t (ev_tv rfl (hs47.trans hq49)) ?_
            refine c_region ?_
            refine L_val (v := .pointer a_c1) (y_move (ev_tv rfl ((hag44 0 rfl).trans rfl))) ?_
            refine L_val (v := .pointer a_c1) (y_move (ev_tv rfl ((hag44 0 rfl).trans rfl))) ?_
            obtain ⟨b31, o32, rfl, H⟩ := H
            refine L_val (v := .pointer (some ⟨b31, o32, none⟩)) (y_nilCheck (ev_tv rfl rfl)) ?_
            refine L_val (v := .pointer (some ⟨b31, o32 + 3, none⟩)) (Tryd.fa78_3 (ev_tv rfl rfl)) ?_
            obtain ⟨x33, x33l, x33c, hc50, H⟩ := H
            refine L_val (v := .slice x33 x33l x33c) (y_load Tryd.underlying51 rfl (ev_tv rfl rfl) hc50) ?_
            obtain ⟨b34, o35, rfl, H⟩ := H
            obtain ⟨hi51, hi52, H⟩ := H
            refine L_val (v := .pointer (some ⟨b34, o35 + (0 : Int).toNat * 2, none⟩)) (y_ix Tryd.underlying51 Tryd.type42 rfl (ev_tv rfl rfl) ev_c hi51 hi52) ?_
            obtain ⟨x36, x37, hc53, H⟩ := H
            refine L_val (v := .agg #[.int .i64 x36, .string x37]) (y_loadAgg Tryd.underlying42 rfl Tryd.type42 rfl (ev_tv rfl rfl) hc53) ?_
            refine L_call (y_call Tryd.call17 (map_ev2 (ev_tv rfl rfl) (ev_tv rfl rfl)) ev_f) (Calls.mono H ?_)
            clear H
            rintro _ w39 ⟨x38, rfl, H⟩
            refine ⟨_, rfl, ?_⟩
            refine l_nil ?_
            refine then_norm ?_
            exact hK18 _ _ (by repeat (first | exact agree_refl | exact hag44 | refine agree_upd rfl ?_ | refine agree_via hag44 rfl ?_)) H
          · replace H := H.2 hb48
            have hq49 : Value.bool (v29) = Value.bool false := congrArg Value.bool hb48
            refine cond_f (ev_tv rfl (hs47.trans hq49)) ?_
            refine c_skip ?_
            refine then_norm ?_
            exact hK18 _ _ (by repeat (first | exact agree_refl | exact hag44 | refine agree_upd rfl ?_ | refine agree_via hag44 rfl ?_)) H
      · clear H
        intro f15 w10 hag16 HJ17
        have H := hJ14  w10 HJ17
        clear hJ14
        refine c_seq ?_
        intro K19 hK19
        refine c_region ?_
        refine L_val (v := .pointer a_c1) (y_move (ev_tv rfl ((hag16 0 rfl).trans rfl))) ?_
        obtain ⟨b11, o12, rfl, H⟩ := H
        refine L_val (v := .pointer (some ⟨b11, o12, none⟩)) (y_nilCheck (ev_tv rfl rfl)) ?_
        refine L_val (v := .pointer (some ⟨b11, o12 + 4, none⟩)) (Tryd.fa78_4 (ev_tv rfl rfl)) ?_
        obtain ⟨x13, hc20, H⟩ := H
        refine L_val (v := .int .i64 x13) (y_load Tryd.underlying3 rfl (ev_tv rfl rfl) hc20) ?_
        obtain ⟨r14, hr21⟩ : ∃ r14 : Int, r14 = IntKind.wrap .i64 (x13 + 1) := ⟨_, rfl⟩
        replace H := H r14 hr21
        refine L_val (v := .int .i64 r14) (y_add (ev_tv rfl rfl) ev_c hr21) ?_
        refine L_val (v := .pointer (some ⟨b11, o12, none⟩)) (y_nilCheck (ev_tv rfl rfl)) ?_
        refine L_val (v := .pointer (some ⟨b11, o12 + 4, none⟩)) (Tryd.fa78_4 (ev_tv rfl rfl)) ?_
        obtain ⟨hc22, hf23, H⟩ := H
        obtain ⟨w15, hw24⟩ : ∃ w15 : World, w15 = World.setCell w10 ⟨b11, o12 + 4, none⟩ (.int .i64 r14) := ⟨_, rfl⟩
        replace H := H w15 hw24
        refine L_skip (y_store Tryd.type3 rfl rfl (ev_tv rfl rfl) (ev_tv rfl rfl) hc22 hf23 hw24) ?_
        refine l_nil ?_
        refine then_norm ?_
        refine hK19 _ _ ?_
        clear hK19
        refine c_seq ?_
        intro K25 hK25
        refine D_start Tryd.mixed rfl [11] ?_
        refine start_keep fun hS => ?_
        refine D_pure (i := 0) (v := .pointer (some ⟨b11, o12, none⟩)) rfl (by kernel_rfl) (W_none rfl) (fun _ => y_move (ev_tv rfl ((hag16 0 rfl).trans rfl))) hS ?_
        intro hS
        refine D_pure (i := 1) (v := .pointer (some ⟨b11, o12, none⟩)) rfl (by kernel_rfl) (W_none rfl) (fun _ => y_nilCheck (ev_tv rfl rfl)) hS ?_
        intro hS
        refine D_pure (i := 2) (v := .pointer (some ⟨b11, o12 + 2, none⟩)) rfl (by kernel_rfl) (W_none rfl) (fun _ => Tryd.fa78_2 (ev_tv rfl rfl)) hS ?_
        intro hS
        refine D_pure (i := 5) (v := .int .i64 a_n4) rfl (by kernel_rfl) (W_none rfl) (fun _ => y_move (ev_tv rfl ((hag16 2 rfl).trans rfl))) hS ?_
        intro hS
        refine D_pure (i := 6) (v := .pointer (some ⟨b11, o12, none⟩)) rfl (by kernel_rfl) (W_none rfl) (fun _ => y_move (ev_tv rfl ((hag16 0 rfl).trans rfl))) hS ?_
        intro hS
        refine D_pure (i := 7) (v := .pointer (some ⟨b11, o12, none⟩)) rfl (by kernel_rfl) (W_none rfl) (fun _ => y_nilCheck (ev_tv rfl rfl)) hS ?_
        intro hS
        refine D_pure (i := 8) (v := .pointer (some ⟨b11, o12 + 4, none⟩)) rfl (by kernel_rfl) (W_none rfl) (fun _ => Tryd.fa78_4 (ev_tv rfl rfl)) hS ?_
        intro hS
        obtain ⟨x16, hc26, H⟩ := H
        refine D_read (i := 3) (v := .map x16) rfl (by kernel_rfl) (W_none rfl) (fun wx => World.cell? wx ⟨b11, o12 + 2, none⟩ = some (.map x16)) hc26 (fun _ hcx => y_load Tryd.underlying76 rfl (ev_tv rfl rfl) hcx) hS ?_
        intro hS
        obtain ⟨x17, x18, hc27, H⟩ := H
        refine D_read (i := 4) (v := .agg #[.int .i64 x17, .string x18]) rfl (by kernel_rfl) (W_none rfl) (fun wx => CellsAt wx ⟨b5, 0, none⟩ [.int .i64 x17, .string x18]) hc27 (fun _ hcx => y_loadAgg Tryd.underlying42 rfl Tryd.type42 rfl (ev_tv rfl ((hag16 4 rfl).trans rfl)) hcx) hS ?_
        intro hS
        obtain ⟨x19, hc28, H⟩ := H
        refine D_read (i := 9) (v := .int .i64 x19) rfl (by kernel_rfl) (W_none rfl) (fun wx => World.cell? wx ⟨b11, o12 + 4, none⟩ = some (.int .i64 x19)) hc28 (fun _ hcx => y_load Tryd.underlying3 rfl (ev_tv rfl rfl) hcx) hS ?_
        intro hS
        refine D_pure (i := 10) (v := .agg #[.int .i64 a_n4, .int .i64 x19]) rfl (by kernel_rfl) (W_none rfl) (fun _ => y_build (parts_ev2 (ev_tv rfl rfl) (ev_tv rfl rfl)) (by kernel_rfl)) hS ?_
        intro hS
        refine D_only (i := 11) (by kernel_rfl) rfl ?_
        obtain ⟨w20, hw29, H⟩ := H
        refine O_skip (i := 11) rfl (W_none rfl) (y_mapUpdate (ev_tv rfl rfl) (ev_tv rfl rfl) (ev_tv rfl rfl) hw29) ?_
        refine and_keep (SS_off (by kernel_rfl) (SS_off (by kernel_rfl) (SS_off (by kernel_rfl) SS_nil))) fun hS => ?_
        refine D_done (by kernel_rfl) ?_
        refine then_norm ?_
        refine hK25 _ _ ?_
        clear hK25
        refine c_seq ?_
        intro K30 hK30
        refine D_start Tryd.mixed rfl [6, 7, 10] ?_
        refine start_keep fun hS => ?_
        refine D_pure (i := 0) (v := .pointer (some ⟨b11, o12, none⟩)) rfl (by kernel_rfl) (W_none rfl) (fun _ => y_move (ev_tv rfl ((hag16 0 rfl).trans rfl))) hS ?_
        intro hS
        refine D_pure (i := 1) (v := .pointer (some ⟨b11, o12, none⟩)) rfl (by kernel_rfl) (W_none rfl) (fun _ => y_move (ev_tv rfl ((hag16 0 rfl).trans rfl))) hS ?_
        intro hS
        refine D_pure (i := 2) (v := .pointer (some ⟨b11, o12, none⟩)) rfl (by kernel_rfl) (W_none rfl) (fun _ => y_nilCheck (ev_tv rfl rfl)) hS ?_
        intro hS
        refine D_pure (i := 3) (v := .pointer (some ⟨b11, o12 + 3, none⟩)) rfl (by kernel_rfl) (W_none rfl) (fun _ => Tryd.fa78_3 (ev_tv rfl rfl)) hS ?_
        intro hS
        obtain ⟨x21, x21l, x21c, hc31, H⟩ := H
        refine D_read (i := 4) (v := .slice x21 x21l x21c) rfl (by kernel_rfl) (W_none rfl) (fun wx => World.cell? wx ⟨b11, o12 + 3, none⟩ = some (.slice x21 x21l x21c)) hc31 (fun _ hcx => y_load Tryd.underlying51 rfl (ev_tv rfl rfl) hcx) hS ?_
        intro hS
        obtain ⟨x22, x23, hc32, H⟩ := H
        refine D_read (i := 5) (v := .agg #[.int .i64 x22, .string x23]) rfl (by kernel_rfl) (W_none rfl) (fun wx => CellsAt wx ⟨b5, 0, none⟩ [.int .i64 x22, .string x23]) hc32 (fun _ hcx => y_loadAgg Tryd.underlying42 rfl Tryd.type42 rfl (ev_tv rfl ((hag16 4 rfl).trans rfl)) hcx) hS ?_
        intro hS
        refine D_only (i := 6) (by kernel_rfl) rfl ?_
        obtain ⟨b24, hb33⟩ : ∃ b24 : Nat, b24 = World.heapSize (w20.drew) := ⟨_, rfl⟩
        obtain ⟨w25, hw34⟩ : ∃ w25 : World, w25 = World.alloc (w20.drew) (.cells #[.int .i64 x22, .string x23] 42) := ⟨_, rfl⟩
        replace H := H b24 w25 hb33 hw34
        refine O_val (i := 6) (v := .slice (some ⟨b24, 0, none⟩) 1 1) rfl (W_none rfl) (y_buildSlice (parts_ev1 (ev_tv rfl rfl)) hb33 hw34 (by kernel_rfl)) ?_
        obtain ⟨hs40, H⟩ := H
        refine and_keep (SS_off (by kernel_rfl) (SS_on hs40 SS_nil)) fun hS => ?_
        refine D_only (i := 7) (by kernel_rfl) rfl ?_
        obtain ⟨x27, x27l, x27c, w26, hc35, H⟩ := H
        refine O_val (i := 7) (v := .slice x27 x27l x27c) rfl (W_none rfl) (y_bi_append (map_ev2 (ev_tv rfl rfl) (ev_tv rfl rfl)) hc35) ?_
        refine and_keep (SS_off (by kernel_rfl) (SS_off (by kernel_rfl) SS_nil)) fun hS => ?_
        refine D_pure (i := 8) (v := .pointer (some ⟨b11, o12, none⟩)) rfl (by kernel_rfl) (W_none rfl) (fun _ => y_nilCheck (ev_tv rfl rfl)) hS ?_
        intro hS
        refine D_pure (i := 9) (v := .pointer (some ⟨b11, o12 + 3, none⟩)) rfl (by kernel_rfl) (W_none rfl) (fun _ => Tryd.fa78_3 (ev_tv rfl rfl)) hS ?_
        intro hS
        refine D_only (i := 10) (by kernel_rfl) rfl ?_
        obtain ⟨hc36, hf37, H⟩ := H
        obtain ⟨w28, hw38⟩ : ∃ w28 : World, w28 = World.setCell w26 ⟨b11, o12 + 3, none⟩ (.slice x27 x27l x27c) := ⟨_, rfl⟩
        replace H := H w28 hw38
        refine O_skip (i := 10) rfl (W_none rfl) (y_store Tryd.type51 rfl rfl (ev_tv rfl rfl) (ev_tv rfl rfl) hc36 hf37 hw38) ?_
        refine and_keep (SS_off (by kernel_rfl) (SS_off (by kernel_rfl) SS_nil)) fun hS => ?_
        refine D_done (by kernel_rfl) ?_
        refine then_norm ?_
        refine hK30 _ _ ?_
        clear hK30
        refine c_seq ?_
        intro K39 hK39
        refine c_region ?_
        refine L_val (v := .int .i64 0) (y_assign ev_c) ?_
        refine l_nil ?_
        refine then_norm ?_
        refine hK39 _ _ ?_
        clear hK39
        refine c_ret ?_
        exact body_1 rfl (ev_tv rfl rfl) H
  · replace H := H.2 hb6
    have hq7 : Value.bool (x7) = Value.bool false := congrArg Value.bool hb6
    refine L_val (v := .bool true) (y_not_f (ev_tv rfl hq7)) ?_
    refine l_nil ?_
    refine then_norm ?_
    refine hK5 _ _ ?_
    clear hK5
    refine cond_t (ev_tv rfl rfl) ?_
    refine c_seq ?_
    intro K59 hK59
    refine c_region ?_
    refine L_val (v := .int .i64 6) (y_assign ev_c) ?_
    refine l_nil ?_
    refine then_norm ?_
    refine hK59 _ _ ?_
    clear hK59
    refine c_ret ?_
    refine then_ret ?_
    exact body_1 rfl (ev_tv rfl rfl) H

/-- (parapet/parapetref19.Cache).Put -/
def Vc16 (a_c1 : Option Addr) (a_k2 : Int) (a_k3 : ByteArray) (a_inode4 : Int) (w : World) (R : Ending → World → Prop) : Prop :=
  (∀ (b5 : Nat) (w6 : World), b5 = World.heapSize w → w6 = World.alloc w (.cells #[.int .i64 a_k2, .string a_k3] 42) → ((((a_inode4 : Int) < 0) → R (.returned (.int .i64 1)) w6) ∧ ((¬ ((a_inode4 : Int) < 0)) → (∃ J9 : World → Prop, (∀  (w7 : World), J9  w7 → (∃ (b8 o9 : Nat), a_c1 = some ⟨b8, o9, none⟩ ∧ (∃ x10 : Int, World.cell? w7 ⟨b8, o9 + 2, none⟩ = some (.int .i64 x10) ∧ (∀ r11 : Int, r11 = IntKind.wrap .i64 (x10 + 1) → ((World.cell? w7 ⟨b8, o9 + 2, none⟩).isSome = true ∧ World.frozen? w7 ⟨b8, o9 + 2, none⟩ = false ∧ ∀ w12 : World, w12 = World.setCell w7 ⟨b8, o9 + 2, none⟩ (.int .i64 r11) → (∃ x13 : Option Addr, ∃ x13l : Nat, ∃ x13c : Nat, World.cell? (w12.drew) ⟨b8, o9 + 1, none⟩ = some (.slice x13 x13l x13c) ∧ (∃ x14 : Int, ∃ x15 : ByteArray, CellsAt (w12.drew) ⟨b5, 0, none⟩ [.int .i64 x14, .string x15] ∧ (∃ x16 : Int, World.cell? (w12.drew) ⟨b8, o9 + 2, none⟩ = some (.int .i64 x16) ∧ (∀ (b17 : Nat) (w18 : World), b17 = World.heapSize (w12.drew) → w18 = World.alloc (w12.drew) (.cells #[.int .i64 x14, .string x15, .int .i64 a_inode4, .int .i64 x16] 54) → (World.cell? w18 ⟨b8, o9 + 2, none⟩ = some (.int .i64 x16) ∧ CellsAt w18 ⟨b5, 0, none⟩ [.int .i64 x14, .string x15] ∧ World.cell? w18 ⟨b8, o9 + 1, none⟩ = some (.slice x13 x13l x13c) ∧ (∃ x20 : Option Addr, ∃ x20l : Nat, ∃ x20c : Nat, ∃ w19 : World, (Builtin.append_ #[37, 37] 37 #[.slice x13 x13l x13c, .slice (some ⟨b17, 0, none⟩) 1 1]).run Tryd.prog w18 = .ok (.slice x20 x20l x20c) w19 ∧ (World.cell? w19 ⟨b8, o9 + 2, none⟩ = some (.int .i64 x16) ∧ CellsAt w19 ⟨b5, 0, none⟩ [.int .i64 x14, .string x15] ∧ ((World.cell? w19 ⟨b8, o9 + 1, none⟩).isSome = true ∧ World.frozen? w19 ⟨b8, o9 + 1, none⟩ = false ∧ ∀ w21 : World, w21 = World.setCell w19 ⟨b8, o9 + 1, none⟩ (.slice x20 x20l x20c) → R (.returned (.int .i64 0)) w21))))))))))))) ∧ (∃ x22 : Int, ∃ x23 : ByteArray, CellsAt w6 ⟨b5, 0, none⟩ [.int .i64 x22, .string x23] ∧ (Calls Tryd.prog 35 #[.pointer a_c1, .agg #[.int .i64 x22, .string x23]] w6 fun e w25 => ∃ x24 : Int, e = .returned (.int .i64 x24) ∧ ((((0 : Int) ≤ x24) → (Calls Tryd.prog 36 #[.pointer a_c1, .int .i64 x24] w25 fun e w27 => e = .returned (.tuple #[]) ∧ J9  w27)) ∧ ((¬ ((0 : Int) ≤ x24)) → (∃ (b29 o30 : Nat), a_c1 = some ⟨b29, o30, none⟩ ∧ (∃ x31 : Option Addr, ∃ x31l : Nat, ∃ x31c : Nat, World.cell? (w25.drew) ⟨b29, o30 + 1, none⟩ = some (.slice x31 x31l x31c) ∧ (∃ x32 : Int, World.cell? (w25.drew) ⟨b29, o30, none⟩ = some (.int .i64 x32) ∧ ((((x32 : Int) ≤ ((x31l : Nat) : Int)) → (Calls Tryd.prog 36 #[.pointer (some ⟨b29, o30, none⟩), .int .i64 0] (w25.drew) fun e w33 => e = .returned (.tuple #[]) ∧ J9  w33)) ∧ ((¬ ((x32 : Int) ≤ ((x31l : Nat) : Int))) → J9  (w25.drew))))))))))))))

theorem vc16 {a_c1 : Option Addr} {a_k2 : Int} {a_k3 : ByteArray} {a_inode4 : Int} {w : World} {R : Ending → World → Prop} (H : Vc16 a_c1 a_k2 a_k3 a_inode4 w R) : Calls Tryd.prog 16 #[.pointer a_c1, .agg #[.int .i64 a_k2, .string a_k3], .int .i64 a_inode4] w R := by
  unfold Vc16 at H
  refine calls_start [.pointer a_c1, .agg #[.int .i64 a_k2, .string a_k3], .int .i64 a_inode4] Tryd.func16 rfl Tryd.ntmps16 rfl ?_
  refine c_seq ?_
  intro K1 hK1
  refine c_region ?_
  obtain ⟨b5, hb2⟩ : ∃ b5 : Nat, b5 = World.heapSize w := ⟨_, rfl⟩
  obtain ⟨w6, hw3⟩ : ∃ w6 : World, w6 = World.alloc w (.cells #[.int .i64 a_k2, .string a_k3] 42) := ⟨_, rfl⟩
  replace H := H b5 w6 hb2 hw3
  refine L_val (v := .pointer (some ⟨b5, 0, none⟩)) (y_box (ev_tv rfl rfl) rfl hb2 hw3) ?_
  refine L_val (v := .int .i64 0) (y_assign ev_c) ?_
  refine l_nil ?_
  refine then_norm ?_
  refine hK1 _ _ ?_
  clear hK1
  refine c_seq ?_
  intro K4 hK4
  refine c_seq ?_
  intro K5 hK5
  refine c_region ?_
  refine L_val (v := .int .i64 a_inode4) (y_move (ev_tv rfl rfl)) ?_
  refine L_val (v := .bool (decide ((a_inode4 : Int) < 0))) (y_lss (ev_tv rfl rfl) ev_c) ?_
  refine l_nil ?_
  refine then_norm ?_
  refine hK5 _ _ ?_
  clear hK5
  rcases (Decidable.em ((a_inode4 : Int) < 0)) with hb6 | hb6
  · replace H := H.1 hb6
    have hq7 : Value.bool (decide ((a_inode4 : Int) < 0)) = Value.bool true := congrArg Value.bool (decide_eq_true hb6)
    refine cond_t (ev_tv rfl hq7) ?_
    refine c_seq ?_
    intro K8 hK8
    refine c_region ?_
    refine L_val (v := .int .i64 1) (y_assign ev_c) ?_
    refine l_nil ?_
    refine then_norm ?_
    refine hK8 _ _ ?_
    clear hK8
    refine c_ret ?_
    refine then_ret ?_
    exact body_1 rfl (ev_tv rfl rfl) H
  · replace H := H.2 hb6
    have hq7 : Value.bool (decide ((a_inode4 : Int) < 0)) = Value.bool false := congrArg Value.bool (decide_eq_false hb6)
    refine cond_f (ev_tv rfl hq7) ?_
    refine c_skip ?_
    refine then_norm ?_
    refine hK4 _ _ ?_
    clear hK4
    obtain ⟨J9, hJ10, H⟩ := H
    refine c_seqJ [(7, 7), (10, 29)] (fun ff ww => J9  ww) ?_ ?_
    · clear hJ10
      intro K14 hK14
      refine c_seq ?_
      intro K37 hK37
      refine c_region ?_
      refine L_val (v := .pointer a_c1) (y_move (ev_tv rfl rfl)) ?_
      obtain ⟨x22, x23, hc38, H⟩ := H
      refine L_val (v := .agg #[.int .i64 x22, .string x23]) (y_loadAgg Tryd.underlying42 rfl Tryd.type42 rfl (ev_tv rfl rfl) hc38) ?_
      refine L_call (y_call Tryd.call35 (map_ev2 (ev_tv rfl rfl) (ev_tv rfl rfl)) ev_f) (Calls.mono H ?_)
      clear H
      rintro _ w25 ⟨x24, rfl, H⟩
      refine ⟨_, rfl, ?_⟩
      refine L_val (v := .int .i64 x24) (y_assign (ev_tv rfl rfl)) ?_
      refine l_nil ?_
      refine then_norm ?_
      refine hK37 _ _ ?_
      clear hK37
      refine c_seq ?_
      intro K39 hK39
      refine c_region ?_
      refine L_val (v := .int .i64 x24) (y_move (ev_tv rfl rfl)) ?_
      refine L_val (v := .bool (decide ((0 : Int) ≤ x24))) (y_geq (ev_tv rfl rfl) ev_c) ?_
      refine l_nil ?_
      refine then_norm ?_
      refine hK39 _ _ ?_
      clear hK39
      rcases (Decidable.em ((0 : Int) ≤ x24)) with hb40 | hb40
      · replace H := H.1 hb40
        have hq41 : Value.bool (decide ((0 : Int) ≤ x24)) = Value.bool true := congrArg Value.bool (decide_eq_true hb40)
        refine cond_t (ev_tv rfl hq41) ?_
        refine c_region ?_
        refine L_val (v := .pointer a_c1) (y_move (ev_tv rfl rfl)) ?_
        refine L_val (v := .int .i64 x24) (y_move (ev_tv rfl rfl)) ?_
        refine L_call (y_call Tryd.call36 (map_ev2 (ev_tv rfl rfl) (ev_tv rfl rfl)) ev_f) (Calls.mono H ?_)
        clear H
        rintro _ w27 ⟨rfl, H⟩
        refine ⟨_, rfl, ?_⟩
        refine l_nil ?_
        refine then_norm ?_
        exact hK14 _ _ (by repeat (first | exact agree_refl | refine agree_upd rfl ?_)) H
      · replace H := H.2 hb40
        have hq41 : Value.bool (decide ((0 : Int) ≤ x24)) = Value.bool false := congrArg Value.bool (decide_eq_false hb40)
        refine cond_f (ev_tv rfl hq41) ?_
        refine c_seq ?_
        intro K42 hK42
        refine D_start Tryd.mixed rfl [] ?_
        refine start_keep fun hS => ?_
        refine D_pure (i := 0) (v := .pointer a_c1) rfl (by kernel_rfl) (W_none rfl) (fun _ => y_move (ev_tv rfl rfl)) hS ?_
        intro hS
        obtain ⟨b29, o30, rfl, H⟩ := H
        refine D_pure (i := 1) (v := .pointer (some ⟨b29, o30, none⟩)) rfl (by kernel_rfl) (W_none rfl) (fun _ => y_nilCheck (ev_tv rfl rfl)) hS ?_
        intro hS
        refine D_pure (i := 2) (v := .pointer (some ⟨b29, o30 + 1, none⟩)) rfl (by kernel_rfl) (W_none rfl) (fun _ => Tryd.fa40_1 (ev_tv rfl rfl)) hS ?_
        intro hS
        refine D_pure (i := 5) (v := .pointer (some ⟨b29, o30, none⟩)) rfl (by kernel_rfl) (W_none rfl) (fun _ => y_move (ev_tv rfl rfl)) hS ?_
        intro hS
        refine D_pure (i := 6) (v := .pointer (some ⟨b29, o30, none⟩)) rfl (by kernel_rfl) (W_none rfl) (fun _ => y_nilCheck (ev_tv rfl rfl)) hS ?_
        intro hS
        refine D_pure (i := 7) (v := .pointer (some ⟨b29, o30, none⟩)) rfl (by kernel_rfl) (W_none rfl) (fun _ => Tryd.fa40_0 (ev_tv rfl rfl)) hS ?_
        intro hS
        obtain ⟨x31, x31l, x31c, hc43, H⟩ := H
        refine D_read (i := 3) (v := .slice x31 x31l x31c) rfl (by kernel_rfl) (W_none rfl) (fun wx => World.cell? wx ⟨b29, o30 + 1, none⟩ = some (.slice x31 x31l x31c)) hc43 (fun _ hcx => y_load Tryd.underlying37 rfl (ev_tv rfl rfl) hcx) hS ?_
        intro hS
        refine D_pure (i := 4) (v := .int .i64 ((x31l : Nat) : Int)) rfl (by kernel_rfl) (W_none rfl) (fun _ => y_len Tryd.underlying37 rfl (map_ev1 (ev_tv rfl rfl))) hS ?_
        intro hS
        obtain ⟨x32, hc44, H⟩ := H
        refine D_read (i := 8) (v := .int .i64 x32) rfl (by kernel_rfl) (W_none rfl) (fun wx => World.cell? wx ⟨b29, o30, none⟩ = some (.int .i64 x32)) hc44 (fun _ hcx => y_load Tryd.underlying3 rfl (ev_tv rfl rfl) hcx) hS ?_
        intro hS
        refine D_pure (i := 9) (v := .bool (decide ((x32 : Int) ≤ ((x31l : Nat) : Int)))) rfl (by kernel_rfl) (W_none rfl) (fun _ => y_geq (ev_tv rfl rfl) (ev_tv rfl rfl)) hS ?_
        intro hS
        refine D_done (by kernel_rfl) ?_
        refine then_norm ?_
        refine hK42 _ _ ?_
        clear hK42
        rcases (Decidable.em ((x32 : Int) ≤ ((x31l : Nat) : Int))) with hb45 | hb45
        · replace H := H.1 hb45
          have hq46 : Value.bool (decide ((x32 : Int) ≤ ((x31l : Nat) : Int))) = Value.bool true := congrArg Value.bool (decide_eq_true hb45)
          refine cond_t (ev_tv rfl hq46) ?_
          refine c_region ?_
          refine L_val (v := .pointer (some ⟨b29, o30, none⟩)) (y_move (ev_tv rfl rfl)) ?_
          refine L_call (y_call Tryd.call36 (map_ev2 (ev_tv rfl rfl) ev_c) ev_f) (Calls.mono H ?_)
          clear H
          rintro _ w33 ⟨rfl, H⟩
          refine ⟨_, rfl, ?_⟩
          refine l_nil ?_
          refine then_norm ?_
          exact hK14 _ _ (by repeat (first | exact agree_refl | refine agree_upd rfl ?_)) H
        · replace H := H.2 hb45
          have hq46 : Value.bool (decide ((x32 : Int) ≤ ((x31l : Nat) : Int))) = Value.bool false := congrArg Value.bool (decide_eq_false hb45)
          refine cond_f (ev_tv rfl hq46) ?_
          refine c_skip ?_
          refine then_norm ?_
          exact hK14 _ _ (by repeat (first | exact agree_refl | refine agree_upd rfl ?_)) H
    · clear H
      intro f11 w7 hag12 HJ13
      have H := hJ10  w7 HJ13
      clear hJ10
      refine c_seq ?_
      intro K15 hK15
      refine c_region ?_
      refine L_val (v := .pointer a_c1) (y_move (ev_tv rfl ((hag12 0 rfl).trans rfl))) ?_
      obtain ⟨b8, o9, rfl, H⟩ := H
      refine L_val (v := .pointer (some ⟨b8, o9, none⟩)) (y_nilCheck (ev_tv rfl rfl)) ?_
      refine L_val (v := .pointer (some ⟨b8, o9 + 2, none⟩)) (Tryd.fa40_2 (ev_tv rfl rfl)) ?_
      obtain ⟨x10, hc16, H⟩ := H
      refine L_val (v := .int .i64 x10) (y_load Tryd.underlying3 rfl (ev_tv rfl rfl) hc16) ?_
      obtain ⟨r11, hr17⟩ : ∃ r11 : Int, r11 = IntKind.wrap .i64 (x10 + 1) := ⟨_, rfl⟩
      replace H := H r11 hr17
      refine L_val (v := .int .i64 r11) (y_add (ev_tv rfl rfl) ev_c hr17) ?_
      refine L_val (v := .pointer (some ⟨b8, o9, none⟩)) (y_nilCheck (ev_tv rfl rfl)) ?_
      refine L_val (v := .pointer (some ⟨b8, o9 + 2, none⟩)) (Tryd.fa40_2 (ev_tv rfl rfl)) ?_
      obtain ⟨hc18, hf19, H⟩ := H
      obtain ⟨w12, hw20⟩ : ∃ w12 : World, w12 = World.setCell w7 ⟨b8, o9 + 2, none⟩ (.int .i64 r11) := ⟨_, rfl⟩
      replace H := H w12 hw20
      refine L_skip (y_store Tryd.type3 rfl rfl (ev_tv rfl rfl) (ev_tv rfl rfl) hc18 hf19 hw20) ?_
      refine l_nil ?_
      refine then_norm ?_
      refine hK15 _ _ ?_
      clear hK15
      refine c_seq ?_
      intro K21 hK21
      refine D_start Tryd.mixed rfl [12, 13, 16] ?_
      refine start_keep fun hS => ?_
      refine D_pure (i := 0) (v := .pointer (some ⟨b8, o9, none⟩)) rfl (by kernel_rfl) (W_none rfl) (fun _ => y_move (ev_tv rfl ((hag12 0 rfl).trans rfl))) hS ?_
      intro hS
      refine D_pure (i := 1) (v := .pointer (some ⟨b8, o9, none⟩)) rfl (by kernel_rfl) (W_none rfl) (fun _ => y_move (ev_tv rfl ((hag12 0 rfl).trans rfl))) hS ?_
      intro hS
      refine D_pure (i := 2) (v := .pointer (some ⟨b8, o9, none⟩)) rfl (by kernel_rfl) (W_none rfl) (fun _ => y_nilCheck (ev_tv rfl rfl)) hS ?_
      intro hS
      refine D_pure (i := 3) (v := .pointer (some ⟨b8, o9 + 1, none⟩)) rfl (by kernel_rfl) (W_none rfl) (fun _ => Tryd.fa40_1 (ev_tv rfl rfl)) hS ?_
      intro hS
      refine D_pure (i := 6) (v := .int .i64 a_inode4) rfl (by kernel_rfl) (W_none rfl) (fun _ => y_move (ev_tv rfl ((hag12 2 rfl).trans rfl))) hS ?_
      intro hS
      refine D_pure (i := 7) (v := .pointer (some ⟨b8, o9, none⟩)) rfl (by kernel_rfl) (W_none rfl) (fun _ => y_move (ev_tv rfl ((hag12 0 rfl).trans rfl))) hS ?_
      intro hS
      refine D_pure (i := 8) (v := .pointer (some ⟨b8, o9, none⟩)) rfl (by kernel_rfl) (W_none rfl) (fun _ => y_nilCheck (ev_tv rfl rfl)) hS ?_
      intro hS
      refine D_pure (i := 9) (v := .pointer (some ⟨b8, o9 + 2, none⟩)) rfl (by kernel_rfl) (W_none rfl) (fun _ => Tryd.fa40_2 (ev_tv rfl rfl)) hS ?_
      intro hS
      obtain ⟨x13, x13l, x13c, hc22, H⟩ := H
      refine D_read (i := 4) (v := .slice x13 x13l x13c) rfl (by kernel_rfl) (W_none rfl) (fun wx => World.cell? wx ⟨b8, o9 + 1, none⟩ = some (.slice x13 x13l x13c)) hc22 (fun _ hcx => y_load Tryd.underlying37 rfl (ev_tv rfl rfl) hcx) hS ?_
      intro hS
      obtain ⟨x14, x15, hc23, H⟩ := H
      refine D_read (i := 5) (v := .agg #[.int .i64 x14, .string x15]) rfl (by kernel_rfl) (W_none rfl) (fun wx => CellsAt wx ⟨b5, 0, none⟩ [.int .i64 x14, .string x15]) hc23 (fun _ hcx => y_loadAgg Tryd.underlying42 rfl Tryd.type42 rfl (ev_tv rfl ((hag12 4 rfl).trans rfl)) hcx) hS ?_
      intro hS
      obtain ⟨x16, hc24, H⟩ := H
      refine D_read (i := 10) (v := .int .i64 x16) rfl (by kernel_rfl) (W_none rfl) (fun wx => World.cell? wx ⟨b8, o9 + 2, none⟩ = some (.int .i64 x16)) hc24 (fun _ hcx => y_load Tryd.underlying3 rfl (ev_tv rfl rfl) hcx) hS ?_
      intro hS
      refine D_pure (i := 11) (v := .agg #[.int .i64 x14, .string x15, .int .i64 a_inode4, .int .i64 x16]) rfl (by kernel_rfl) (W_none rfl) (fun _ => y_build (parts_ev3 (ev_tv rfl rfl) (ev_tv rfl rfl) (ev_tv rfl rfl)) (by kernel_rfl)) hS ?_
      intro hS
      refine D_only (i := 12) (by kernel_rfl) rfl ?_
      obtain ⟨b17, hb25⟩ : ∃ b17 : Nat, b17 = World.heapSize (w12.drew) := ⟨_, rfl⟩
      obtain ⟨w18, hw26⟩ : ∃ w18 : World, w18 = World.alloc (w12.drew) (.cells #[.int .i64 x14, .string x15, .int .i64 a_inode4, .int .i64 x16] 54) := ⟨_, rfl⟩
      replace H := H b17 w18 hb25 hw26
      refine O_val (i := 12) (v := .slice (some ⟨b17, 0, none⟩) 1 1) rfl (W_none rfl) (y_buildSlice (parts_ev1 (ev_tv rfl rfl)) hb25 hw26 (by kernel_rfl)) ?_
      obtain ⟨hs34, hs35, hs36, H⟩ := H
      refine and_keep (SS_on hs34 (SS_on hs35 (SS_on hs36 SS_nil))) fun hS => ?_
      refine D_only (i := 13) (by kernel_rfl) rfl ?_
      obtain ⟨x20, x20l, x20c, w19, hc27, H⟩ := H
      refine O_val (i := 13) (v := .slice x20 x20l x20c) rfl (W_none rfl) (y_bi_append (map_ev2 (ev_tv rfl rfl) (ev_tv rfl rfl)) hc27) ?_
      obtain ⟨hs32, hs33, H⟩ := H
      refine and_keep (SS_on hs32 (SS_on hs33 (SS_off (by kernel_rfl) SS_nil))) fun hS => ?_
      refine D_pure (i := 14) (v := .pointer (some ⟨b8, o9, none⟩)) rfl (by kernel_rfl) (W_none rfl) (fun _ => y_nilCheck (ev_tv rfl rfl)) hS ?_
      intro hS
      refine D_pure (i := 15) (v := .pointer (some ⟨b8, o9 + 1, none⟩)) rfl (by kernel_rfl) (W_none rfl) (fun _ => Tryd.fa40_1 (ev_tv rfl rfl)) hS ?_
      intro hS
      refine D_only (i := 16) (by kernel_rfl) rfl ?_
      obtain ⟨hc28, hf29, H⟩ := H
      obtain ⟨w21, hw30⟩ : ∃ w21 : World, w21 = World.setCell w19 ⟨b8, o9 + 1, none⟩ (.slice x20 x20l x20c) := ⟨_, rfl⟩
      replace H := H w21 hw30
      refine O_skip (i := 16) rfl (W_none rfl) (y_store Tryd.type37 rfl rfl (ev_tv rfl rfl) (ev_tv rfl rfl) hc28 hf29 hw30) ?_
      refine and_keep (SS_off (by kernel_rfl) (SS_off (by kernel_rfl) (SS_off (by kernel_rfl) SS_nil))) fun hS => ?_
      refine D_done (by kernel_rfl) ?_
      refine then_norm ?_
      refine hK21 _ _ ?_
      clear hK21
      refine c_seq ?_
      intro K31 hK31
      refine c_region ?_
      refine L_val (v := .int .i64 0) (y_assign ev_c) ?_
      refine l_nil ?_
      refine then_norm ?_
      refine hK31 _ _ ?_
      clear hK31
      refine c_ret ?_
      exact body_1 rfl (ev_tv rfl rfl) H

/-- (parapet/namec.Cache).Forget -/
def Vc17 (a_c1 : Option Addr) (a_k2 : Int) (a_k3 : ByteArray) (w : World) (R : Ending → World → Prop) : Prop :=
  (∀ (b4 : Nat) (w5 : World), b4 = World.heapSize w → w5 = World.alloc w (.cells #[.int .i64 a_k2, .string a_k3] 42) → (∃ x6 : Int, ∃ x7 : ByteArray, CellsAt w5 ⟨b4, 0, none⟩ [.int .i64 x6, .string x7] ∧ (Calls Tryd.prog 13 #[.pointer a_c1, .agg #[.int .i64 x6, .string x7]] w5 fun e w10 => ∃ x8 : Int, ∃ x9 : Bool, e = .returned (.tuple #[.int .i64 x8, .bool x9]) ∧ (((x9 = true) → (∃ (b12 o13 : Nat), a_c1 = some ⟨b12, o13, none⟩ ∧ (∃ x14 : Option Addr, World.cell? (w10.drew) ⟨b12, o13, none⟩ = some (.pointer x14) ∧ (∃ x15 : Option Nat, World.cell? (w10.drew) ⟨b12, o13 + 2, none⟩ = some (.map x15) ∧ (∃ x16 : Int, ∃ x17 : ByteArray, CellsAt (w10.drew) ⟨b4, 0, none⟩ [.int .i64 x16, .string x17] ∧ (∃ x18 : Int, ∃ x19 : Int, (Instr.lookup 76 (.map x15) (.agg #[.int .i64 x16, .string x17]) false).run Tryd.prog (w10.drew) = .ok (.agg #[.int .i64 x18, .int .i64 x19]) (w10.drew) ∧ (Calls Tryd.prog 37 #[.pointer x14, .int .i64 x19] (w10.drew) fun e w21 => ∃ x20 : Int, e = .returned (.int .i64 x20) ∧ ((Instr.lookup 76 (.map x15) (.agg #[.int .i64 x16, .string x17]) false).run Tryd.prog w21 = .ok (.agg #[.int .i64 x18, .int .i64 x19]) w21 ∧ CellsAt w21 ⟨b4, 0, none⟩ [.int .i64 x16, .string x17] ∧ World.cell? w21 ⟨b12, o13 + 2, none⟩ = some (.map x15) ∧ (∃ x22 : Option Nat, World.cell? (w21.drew) ⟨b12, o13 + 2, none⟩ = some (.map x22) ∧ (∃ x23 : Int, ∃ x24 : ByteArray, CellsAt (w21.drew) ⟨b4, 0, none⟩ [.int .i64 x23, .string x24] ∧ (∃ w25 : World, (Builtin.delete_ #[76, 42] 0 #[.map x22, .agg #[.int .i64 x23, .string x24]]).run Tryd.prog (w21.drew) = .ok (.tuple #[]) w25 ∧ (∃ x26 : Option Addr, ∃ x26l : Nat, ∃ x26c : Nat, World.cell? w25 ⟨b12, o13 + 3, none⟩ = some (.slice x26 x26l x26c) ∧ (Calls Tryd.prog 38 #[.slice x26 x26l x26c, .func (.func 39) #[] #[.pointer (some ⟨b4, 0, none⟩)]] w25 fun e w28 => ∃ x27 : Option Addr, ∃ x27l : Nat, ∃ x27c : Nat, e = .returned (.slice x27 x27l x27c) ∧ ((World.cell? w28 ⟨b12, o13 + 3, none⟩).isSome = true ∧ World.frozen? w28 ⟨b12, o13 + 3, none⟩ = false ∧ ∀ w30 : World, w30 = World.setCell w28 ⟨b12, o13 + 3, none⟩ (.slice x27 x27l x27c) → R (.returned (.bool true)) w30)))))))))))))) ∧ ((x9 = false) → R (.returned (.bool false)) w10)))))

theorem vc17 {a_c1 : Option Addr} {a_k2 : Int} {a_k3 : ByteArray} {w : World} {R : Ending → World → Prop} (H : Vc17 a_c1 a_k2 a_k3 w R) : Calls Tryd.prog 17 #[.pointer a_c1, .agg #[.int .i64 a_k2, .string a_k3]] w R := by
  unfold Vc17 at H
  refine calls_start [.pointer a_c1, .agg #[.int .i64 a_k2, .string a_k3]] Tryd.func17 rfl Tryd.ntmps17 rfl ?_
  refine c_seq ?_
  intro K1 hK1
  refine c_region ?_
  obtain ⟨b4, hb2⟩ : ∃ b4 : Nat, b4 = World.heapSize w := ⟨_, rfl⟩
  obtain ⟨w5, hw3⟩ : ∃ w5 : World, w5 = World.alloc w (.cells #[.int .i64 a_k2, .string a_k3] 42) := ⟨_, rfl⟩
  replace H := H b4 w5 hb2 hw3
  refine L_val (v := .pointer (some ⟨b4, 0, none⟩)) (y_box (ev_tv rfl rfl) rfl hb2 hw3) ?_
  refine L_val (v := .bool false) (y_assign ev_c) ?_
  refine l_nil ?_
  refine then_norm ?_
  refine hK1 _ _ ?_
  clear hK1
  refine c_seq ?_
  intro K4 hK4
  refine c_seq ?_
  intro K5 hK5
  refine c_region ?_
  refine L_val (v := .pointer a_c1) (y_move (ev_tv rfl rfl)) ?_
  obtain ⟨x6, x7, hc6, H⟩ := H
  refine L_val (v := .agg #[.int .i64 x6, .string x7]) (y_loadAgg Tryd.underlying42 rfl Tryd.type42 rfl (ev_tv rfl rfl) hc6) ?_
  refine L_call (y_call Tryd.call13 (map_ev2 (ev_tv rfl rfl) (ev_tv rfl rfl)) ev_f) (Calls.mono H ?_)
  clear H
  rintro _ w10 ⟨x8, x9, rfl, H⟩
  refine ⟨_, rfl, ?_⟩
  refine L_val (v := .tuple #[.int .i64 x8, .bool x9]) (y_move (ev_tv rfl rfl)) ?_
  refine L_val (v := .int .i64 x8) (y_extract (ev_tv rfl rfl) rfl) ?_
  refine L_val (v := .bool x9) (y_extract (ev_tv rfl rfl) rfl) ?_
  refine L_val (v := .int .i64 x8) (y_assign (ev_tv rfl rfl)) ?_
  refine L_val (v := .bool x9) (y_assign (ev_tv rfl rfl)) ?_
  refine l_nil ?_
  refine then_norm ?_
  refine hK5 _ _ ?_
  clear hK5
  refine c_seq ?_
  intro K7 hK7
  refine c_region ?_
  refine L_val (v := .bool x9) (y_move (ev_tv rfl rfl)) ?_
  rcases Bool.eq_false_or_eq_true x9 with hb8 | hb8
  · replace H := H.1 hb8
    have hq9 : Value.bool (x9) = Value.bool true := congrArg Value.bool hb8
    refine L_val (v := .bool false) (y_not_t (ev_tv rfl hq9)) ?_
    refine l_nil ?_
    refine then_norm ?_
    refine hK7 _ _ ?_
    clear hK7
    refine cond_f (ev_tv rfl rfl) ?_
    refine c_skip ?_
    refine then_norm ?_
    refine hK4 _ _ ?_
    clear hK4
    refine c_seq ?_
    intro K10 hK10
    refine D_start Tryd.mixed rfl [11] ?_
    refine start_keep fun hS => ?_
    refine D_pure (i := 0) (v := .pointer a_c1) rfl (by kernel_rfl) (W_none rfl) (fun _ => y_move (ev_tv rfl rfl)) hS ?_
    intro hS
    obtain ⟨b12, o13, rfl, H⟩ := H
    refine D_pure (i := 1) (v := .pointer (some ⟨b12, o13, none⟩)) rfl (by kernel_rfl) (W_none rfl) (fun _ => y_nilCheck (ev_tv rfl rfl)) hS ?_
    intro hS
    refine D_pure (i := 2) (v := .pointer (some ⟨b12, o13, none⟩)) rfl (by kernel_rfl) (W_none rfl) (fun _ => Tryd.fa78_0 (ev_tv rfl rfl)) hS ?_
    intro hS
    refine D_pure (i := 4) (v := .pointer (some ⟨b12, o13, none⟩)) rfl (by kernel_rfl) (W_none rfl) (fun _ => y_move (ev_tv rfl rfl)) hS ?_
    intro hS
    refine D_pure (i := 5) (v := .pointer (some ⟨b12, o13, none⟩)) rfl (by kernel_rfl) (W_none rfl) (fun _ => y_nilCheck (ev_tv rfl rfl)) hS ?_
    intro hS
    refine D_pure (i := 6) (v := .pointer (some ⟨b12, o13 + 2, none⟩)) rfl (by kernel_rfl) (W_none rfl) (fun _ => Tryd.fa78_2 (ev_tv rfl rfl)) hS ?_
    intro hS
    obtain ⟨x14, hc11, H⟩ := H
    refine D_read (i := 3) (v := .pointer x14) rfl (by kernel_rfl) (W_none rfl) (fun wx => World.cell? wx ⟨b12, o13, none⟩ = some (.pointer x14)) hc11 (fun _ hcx => y_load Tryd.underlying30 rfl (ev_tv rfl rfl) hcx) hS ?_
    intro hS
    obtain ⟨x15, hc12, H⟩ := H
    refine D_read (i := 7) (v := .map x15) rfl (by kernel_rfl) (W_none rfl) (fun wx => World.cell? wx ⟨b12, o13 + 2, none⟩ = some (.map x15)) hc12 (fun _ hcx => y_load Tryd.underlying76 rfl (ev_tv rfl rfl) hcx) hS ?_
    intro hS
    obtain ⟨x16, x17, hc13, H⟩ := H
    refine D_read (i := 8) (v := .agg #[.int .i64 x16, .string x17]) rfl (by kernel_rfl) (W_none rfl) (fun wx => CellsAt wx ⟨b4, 0, none⟩ [.int .i64 x16, .string x17]) hc13 (fun _ hcx => y_loadAgg Tryd.underlying42 rfl Tryd.type42 rfl (ev_tv rfl rfl) hcx) hS ?_
    intro hS
    obtain ⟨x18, x19, hc14, H⟩ := H
    refine D_read (i := 9) (v := .agg #[.int .i64 x18, .int .i64 x19]) rfl (by kernel_rfl) (W_none rfl) (fun wx => (Instr.lookup 76 (.map x15) (.agg #[.int .i64 x16, .string x17]) false).run Tryd.prog wx = .ok (.agg #[.int .i64 x18, .int .i64 x19]) wx) hc14 (fun _ hcx => y_lookup (ev_tv rfl rfl) (ev_tv rfl rfl) hcx) hS ?_
    intro hS
    refine D_pure (i := 10) (v := .int .i64 x19) rfl (by kernel_rfl) (W_none rfl) (fun _ => y_field (ev_tv rfl rfl) (by kernel_rfl)) hS ?_
    intro hS
    refine D_only (i := 11) (by kernel_rfl) rfl ?_
    refine O_call (i := 11) rfl (W_none rfl) (y_call Tryd.call37 (map_ev2 (ev_tv rfl rfl) (ev_tv rfl rfl)) ev_f) (Calls.mono H ?_)
    clear H
    rintro _ w21 ⟨x20, rfl, H⟩
    refine ⟨_, rfl, ?_⟩
    obtain ⟨hs25, hs26, hs27, H⟩ := H
    refine and_keep (SS_on hs25 (SS_on hs26 (SS_on hs27 (SS_off (by kernel_rfl) SS_nil)))) fun hS => ?_
    refine D_done (by kernel_rfl) ?_
    refine then_norm ?_
    refine hK10 _ _ ?_
    clear hK10
    refine c_seq ?_
    intro K15 hK15
    refine D_start Tryd.mixed rfl [5] ?_
    refine start_keep fun hS => ?_
    refine D_pure (i := 0) (v := .pointer (some ⟨b12, o13, none⟩)) rfl (by kernel_rfl) (W_none rfl) (fun _ => y_move (ev_tv rfl rfl)) hS ?_
    intro hS
    refine D_pure (i := 1) (v := .pointer (some ⟨b12, o13, none⟩)) rfl (by kernel_rfl) (W_none rfl) (fun _ => y_nilCheck (ev_tv rfl rfl)) hS ?_
    intro hS
    refine D_pure (i := 2) (v := .pointer (some ⟨b12, o13 + 2, none⟩)) rfl (by kernel_rfl) (W_none rfl) (fun _ => Tryd.fa78_2 (ev_tv rfl rfl)) hS ?_
    intro hS
    obtain ⟨x22, hc16, H⟩ := H
    refine D_read (i := 3) (v := .map x22) rfl (by kernel_rfl) (W_none rfl) (fun wx => World.cell? wx ⟨b12, o13 + 2, none⟩ = some (.map x22)) hc16 (fun _ hcx => y_load Tryd.underlying76 rfl (ev_tv rfl rfl) hcx) hS ?_
    intro hS
    obtain ⟨x23, x24, hc17, H⟩ := H
    refine D_read (i := 4) (v := .agg #[.int .i64 x23, .string x24]) rfl (by kernel_rfl) (W_none rfl) (fun wx => CellsAt wx ⟨b4, 0, none⟩ [.int .i64 x23, .string x24]) hc17 (fun _ hcx => y_loadAgg Tryd.underlying42 rfl Tryd.type42 rfl (ev_tv rfl rfl) hcx) hS ?_
    intro hS
    refine D_only (i := 5) (by kernel_rfl) rfl ?_
    obtain ⟨w25, hc18, H⟩ := H
    refine O_valn (i := 5) (v := .tuple #[]) rfl (W_none rfl) (y_bi_delete (map_ev2 (ev_tv rfl rfl) (ev_tv rfl rfl)) hc18) ?_
    refine and_keep (SS_off (by kernel_rfl) (SS_off (by kernel_rfl) SS_nil)) fun hS => ?_
    refine D_done (by kernel_rfl) ?_
    refine then_norm ?_
    refine hK15 _ _ ?_
    clear hK15
    refine c_seq ?_
    intro K19 hK19
    refine c_region ?_
    refine L_val (v := .pointer (some ⟨b12, o13, none⟩)) (y_move (ev_tv rfl rfl)) ?_
    refine L_val (v := .pointer (some ⟨b12, o13, none⟩)) (y_move (ev_tv rfl rfl)) ?_
    refine L_val (v := .pointer (some ⟨b12, o13, none⟩)) (y_nilCheck (ev_tv rfl rfl)) ?_
    refine L_val (v := .pointer (some ⟨b12, o13 + 3, none⟩)) (Tryd.fa78_3 (ev_tv rfl rfl)) ?_
    obtain ⟨x26, x26l, x26c, hc20, H⟩ := H
    refine L_val (v := .slice x26 x26l x26c) (y_load Tryd.underlying51 rfl (ev_tv rfl rfl) hc20) ?_
    refine L_val (v := .func (.func 39) #[] #[.pointer (some ⟨b4, 0, none⟩)]) (y_makeFunc map_ev0 (map_ev1 (ev_tv rfl rfl))) ?_
    refine L_call (y_call Tryd.call38 (map_ev2 (ev_tv rfl rfl) (ev_tv rfl rfl)) ev_f) (Calls.mono H ?_)
    clear H
    rintro _ w28 ⟨x27, x27l, x27c, rfl, H⟩
    refine ⟨_, rfl, ?_⟩
    refine L_val (v := .pointer (some ⟨b12, o13, none⟩)) (y_nilCheck (ev_tv rfl rfl)) ?_
    refine L_val (v := .pointer (some ⟨b12, o13 + 3, none⟩)) (Tryd.fa78_3 (ev_tv rfl rfl)) ?_
    obtain ⟨hc21, hf22, H⟩ := H
    obtain ⟨w30, hw23⟩ : ∃ w30 : World, w30 = World.setCell w28 ⟨b12, o13 + 3, none⟩ (.slice x27 x27l x27c) := ⟨_, rfl⟩
    replace H := H w30 hw23
    refine L_skip (y_store Tryd.type51 rfl rfl (ev_tv rfl rfl) (ev_tv rfl rfl) hc21 hf22 hw23) ?_
    refine l_nil ?_
    refine then_norm ?_
    refine hK19 _ _ ?_
    clear hK19
    refine c_seq ?_
    intro K24 hK24
    refine c_region ?_
    refine L_val (v := .bool true) (y_assign ev_c) ?_
    refine l_nil ?_
    refine then_norm ?_
    refine hK24 _ _ ?_
    clear hK24
    refine c_ret ?_
    exact body_1 rfl (ev_tv rfl rfl) H
  · replace H := H.2 hb8
    have hq9 : Value.bool (x9) = Value.bool false := congrArg Value.bool hb8
    refine L_val (v := .bool true) (y_not_f (ev_tv rfl hq9)) ?_
    refine l_nil ?_
    refine then_norm ?_
    refine hK7 _ _ ?_
    clear hK7
    refine cond_t (ev_tv rfl rfl) ?_
    refine c_seq ?_
    intro K28 hK28
    refine c_region ?_
    refine L_val (v := .bool false) (y_assign ev_c) ?_
    refine l_nil ?_
    refine then_norm ?_
    refine hK28 _ _ ?_
    clear hK28
    refine c_ret ?_
    refine then_ret ?_
    exact body_1 rfl (ev_tv rfl rfl) H

/-- (parapet/parapetref19.Cache).Forget -/
def Vc18 (a_c1 : Option Addr) (a_k2 : Int) (a_k3 : ByteArray) (w : World) (R : Ending → World → Prop) : Prop :=
  (∀ (b4 : Nat) (w5 : World), b4 = World.heapSize w → w5 = World.alloc w (.cells #[.int .i64 a_k2, .string a_k3] 42) → (∃ x6 : Int, ∃ x7 : ByteArray, CellsAt w5 ⟨b4, 0, none⟩ [.int .i64 x6, .string x7] ∧ (Calls Tryd.prog 35 #[.pointer a_c1, .agg #[.int .i64 x6, .string x7]] w5 fun e w9 => ∃ x8 : Int, e = .returned (.int .i64 x8) ∧ ((((0 : Int) ≤ x8) → (Calls Tryd.prog 36 #[.pointer a_c1, .int .i64 x8] w9 fun e w11 => e = .returned (.tuple #[]) ∧ R (.returned (.bool (decide ((0 : Int) ≤ x8)))) w11)) ∧ ((¬ ((0 : Int) ≤ x8)) → R (.returned (.bool (decide ((0 : Int) ≤ x8)))) w9)))))

theorem vc18 {a_c1 : Option Addr} {a_k2 : Int} {a_k3 : ByteArray} {w : World} {R : Ending → World → Prop} (H : Vc18 a_c1 a_k2 a_k3 w R) : Calls Tryd.prog 18 #[.pointer a_c1, .agg #[.int .i64 a_k2, .string a_k3]] w R := by
  unfold Vc18 at H
  refine calls_start [.pointer a_c1, .agg #[.int .i64 a_k2, .string a_k3]] Tryd.func18 rfl Tryd.ntmps18 rfl ?_
  refine c_seq ?_
  intro K1 hK1
  refine c_region ?_
  obtain ⟨b4, hb2⟩ : ∃ b4 : Nat, b4 = World.heapSize w := ⟨_, rfl⟩
  obtain ⟨w5, hw3⟩ : ∃ w5 : World, w5 = World.alloc w (.cells #[.int .i64 a_k2, .string a_k3] 42) := ⟨_, rfl⟩
  replace H := H b4 w5 hb2 hw3
  refine L_val (v := .pointer (some ⟨b4, 0, none⟩)) (y_box (ev_tv rfl rfl) rfl hb2 hw3) ?_
  refine L_val (v := .bool false) (y_assign ev_c) ?_
  refine l_nil ?_
  refine then_norm ?_
  refine hK1 _ _ ?_
  clear hK1
  refine c_seq ?_
  intro K4 hK4
  refine c_region ?_
  refine L_val (v := .pointer a_c1) (y_move (ev_tv rfl rfl)) ?_
  obtain ⟨x6, x7, hc5, H⟩ := H
  refine L_val (v := .agg #[.int .i64 x6, .string x7]) (y_loadAgg Tryd.underlying42 rfl Tryd.type42 rfl (ev_tv rfl rfl) hc5) ?_
  refine L_call (y_call Tryd.call35 (map_ev2 (ev_tv rfl rfl) (ev_tv rfl rfl)) ev_f) (Calls.mono H ?_)
  clear H
  rintro _ w9 ⟨x8, rfl, H⟩
  refine ⟨_, rfl, ?_⟩
  refine L_val (v := .int .i64 x8) (y_assign (ev_tv rfl rfl)) ?_
  refine l_nil ?_
  refine then_norm ?_
  refine hK4 _ _ ?_
  clear hK4
  refine c_seq ?_
  intro K6 hK6
  refine c_seq ?_
  intro K7 hK7
  refine c_region ?_
  refine L_val (v := .int .i64 x8) (y_move (ev_tv rfl rfl)) ?_
  refine L_val (v := .bool (decide ((0 : Int) ≤ x8))) (y_geq (ev_tv rfl rfl) ev_c) ?_
  refine l_nil ?_
  refine then_norm ?_
  refine hK7 _ _ ?_
  clear hK7
  rcases (Decidable.em ((0 : Int) ≤ x8)) with hb8 | hb8
  · replace H := H.1 hb8
    have hq9 : Value.bool (decide ((0 : Int) ≤ x8)) = Value.bool true := congrArg Value.bool (decide_eq_true hb8)
    refine cond_t (ev_tv rfl hq9) ?_
    refine c_region ?_
    refine L_val (v := .pointer a_c1) (y_move (ev_tv rfl rfl)) ?_
    refine L_val (v := .int .i64 x8) (y_move (ev_tv rfl rfl)) ?_
    refine L_call (y_call Tryd.call36 (map_ev2 (ev_tv rfl rfl) (ev_tv rfl rfl)) ev_f) (Calls.mono H ?_)
    clear H
    rintro _ w11 ⟨rfl, H⟩
    refine ⟨_, rfl, ?_⟩
    refine l_nil ?_
    refine then_norm ?_
    refine hK6 _ _ ?_
    clear hK6
    refine c_seq ?_
    intro K10 hK10
    refine c_region ?_
    refine L_val (v := .int .i64 x8) (y_move (ev_tv rfl rfl)) ?_
    refine L_val (v := .bool (decide ((0 : Int) ≤ x8))) (y_geq (ev_tv rfl rfl) ev_c) ?_
    refine L_val (v := .bool (decide ((0 : Int) ≤ x8))) (y_assign (ev_tv rfl rfl)) ?_
    refine l_nil ?_
    refine then_norm ?_
    refine hK10 _ _ ?_
    clear hK10
    refine c_ret ?_
    exact body_1 rfl (ev_tv rfl rfl) H
  · replace H := H.2 hb8
    have hq9 : Value.bool (decide ((0 : Int) ≤ x8)) = Value.bool false := congrArg Value.bool (decide_eq_false hb8)
    refine cond_f (ev_tv rfl hq9) ?_
    refine c_skip ?_
    refine then_norm ?_
    refine hK6 _ _ ?_
    clear hK6
    refine c_seq ?_
    intro K11 hK11
    refine c_region ?_
    refine L_val (v := .int .i64 x8) (y_move (ev_tv rfl rfl)) ?_
    refine L_val (v := .bool (decide ((0 : Int) ≤ x8))) (y_geq (ev_tv rfl rfl) ev_c) ?_
    refine L_val (v := .bool (decide ((0 : Int) ≤ x8))) (y_assign (ev_tv rfl rfl)) ?_
    refine l_nil ?_
    refine then_norm ?_
    refine hK11 _ _ ?_
    clear hK11
    refine c_ret ?_
    exact body_1 rfl (ev_tv rfl rfl) H

/-- (parapet/namec.Cache).ForgetDir -/
def Vc19 (a_c1 : Option Addr) (a_dir2 : Int) (w : World) (R : Ending → World → Prop) : Prop :=
  (Calls Tryd.prog 22 #[.pointer a_c1] w fun e w4 => ∃ x3 : Option Addr, ∃ x3l : Nat, ∃ x3c : Nat, e = .returned (.slice x3 x3l x3c) ∧ (∃ I5 : Nat → Int → Int → World → Prop, (∃ m, I5 m 0 0 w4) ∧ ∀ (m8 : Nat) (v6 : Int) (v7 : Int) (w9 : World), I5 m8 v6 v7 w9 → ((((v7 : Int) < ((x3l : Nat) : Int)) → (∃ (b10 o11 : Nat), x3 = some ⟨b10, o11, none⟩ ∧ ((0 : Int) ≤ v7 ∧ v7 < ((x3l : Nat) : Int) ∧ (∃ x12 : Int, ∃ x13 : ByteArray, CellsAt w9 ⟨b10, o11 + (v7 : Int).toNat * 2, none⟩ [.int .i64 x12, .string x13] ∧ (∀ (b14 : Nat) (w15 : World), b14 = World.heapSize w9 → w15 = World.alloc w9 (.cells #[.int .i64 0, .string (⟨#[]⟩ : ByteArray)] 42) → ((∀ j, j < 2 → (World.cell? w15 (Addr.add ⟨b14, 0, none⟩ j)).isSome = true ∧ World.frozen? w15 (Addr.add ⟨b14, 0, none⟩ j) = false) ∧ ∀ w16 : World, w16 = putCells w15 ⟨b14, 0, none⟩ [.int .i64 x12, .string x13] 0 → (∃ x17 : Int, World.cell? w16 ⟨b14, 0, none⟩ = some (.int .i64 x17) ∧ ((((x17 : Int) = a_dir2) → (∃ x18 : Int, ∃ x19 : ByteArray, CellsAt w16 ⟨b14, 0, none⟩ [.int .i64 x18, .string x19] ∧ (Calls Tryd.prog 17 #[.pointer a_c1, .agg #[.int .i64 x18, .string x19]] w16 fun e w21 => ∃ x20 : Bool, e = .returned (.bool x20) ∧ (((x20 = true) → (∀ r23 : Int, r23 = IntKind.wrap .i64 (v6 + 1) → (∀ r24 : Int, r24 = IntKind.wrap .i64 (v7 + 1) → (∃ m25, m25 < m8 ∧ I5 m25 r23 r24 w21)))) ∧ ((x20 = false) → (∀ r26 : Int, r26 = IntKind.wrap .i64 (v7 + 1) → (∃ m27, m27 < m8 ∧ I5 m27 v6 r26 w21))))))) ∧ ((¬ ((x17 : Int) = a_dir2)) → (∀ r28 : Int, r28 = IntKind.wrap .i64 (v7 + 1) → (∃ m29, m29 < m8 ∧ I5 m29 v6 r28 w16))))))))))) ∧ ((¬ ((v7 : Int) < ((x3l : Nat) : Int))) → R (.returned (.int .i64 v6)) w9))))

theorem vc19 {a_c1 : Option Addr} {a_dir2 : Int} {w : World} {R : Ending → World → Prop} (H : Vc19 a_c1 a_dir2 w R) : Calls Tryd.prog 19 #[.pointer a_c1, .int .i64 a_dir2] w R := by
  unfold Vc19 at H
  refine calls_start [.pointer a_c1, .int .i64 a_dir2] Tryd.func19 rfl Tryd.ntmps19 rfl ?_
  refine c_seq ?_
  intro K1 hK1
  refine c_region ?_
  refine L_val (v := .int .i64 0) (y_assign ev_c) ?_
  refine l_nil ?_
  refine then_norm ?_
  refine hK1 _ _ ?_
  clear hK1
  refine c_seq ?_
  intro K2 hK2
  refine c_region ?_
  refine L_val (v := .int .i64 0) (y_assign ev_c) ?_
  refine l_nil ?_
  refine then_norm ?_
  refine hK2 _ _ ?_
  clear hK2
  refine c_seq ?_
  intro K3 hK3
  refine c_seq ?_
  intro K4 hK4
  refine c_region ?_
  refine L_val (v := .pointer a_c1) (y_move (ev_tv rfl rfl)) ?_
  refine L_call (y_call Tryd.call22 (map_ev1 (ev_tv rfl rfl)) ev_f) (Calls.mono H ?_)
  clear H
  rintro _ w4 ⟨x3, x3l, x3c, rfl, H⟩
  refine ⟨_, rfl, ?_⟩
  refine L_val (v := .int .i64 ((x3l : Nat) : Int)) (y_len Tryd.underlying51 rfl (map_ev1 (ev_tv rfl rfl))) ?_
  refine L_val (v := .int .i64 0) (y_move ev_c) ?_
  refine l_nil ?_
  refine then_norm ?_
  refine hK4 _ _ ?_
  clear hK4
  refine c_block ?_
  obtain ⟨I5, ⟨m9, HI10⟩, H⟩ := H
  refine loop_fr ([(5, 5), (7, 7), (11, 26)]) (fun m ff ww => ∃ (v6 : Int) (v7 : Int), ff 5 = (.int .i64 v6 : Value) ∧ ff 11 = (.int .i64 v7 : Value) ∧ I5 m v6 v7 ww) m9 ⟨0, 0, rfl, rfl, HI10⟩ ?_
  rintro m8 f6 w9 hag7 ⟨v6, v7, hs11, hs12, HI8⟩
  replace H := H m8 v6 v7 w9 HI8
  refine c_seq ?_
  intro K13 hK13
  refine c_region ?_
  refine L_val (v := .bool (decide ((v7 : Int) < ((x3l : Nat) : Int)))) (y_lss (ev_tv rfl hs12) (ev_tv rfl ((hag7 10 rfl).trans rfl))) ?_
  refine l_nil ?_
  refine then_norm ?_
  refine hK13 _ _ ?_
  clear hK13
  refine c_seq ?_
  intro K14 hK14
  rcases (Decidable.em ((v7 : Int) < ((x3l : Nat) : Int))) with hb15 | hb15
  · replace H := H.1 hb15
    have hq16 : Value.bool (decide ((v7 : Int) < ((x3l : Nat) : Int))) = Value.bool true := congrArg Value.bool (decide_eq_true hb15)
    refine cond_t (ev_tv rfl hq16) ?_
    refine c_skip ?_
    refine then_norm ?_
    refine hK14 _ _ ?_
    clear hK14
    refine c_seq ?_
    intro K17 hK17
    refine c_block ?_
    refine c_seq ?_
    intro K18 hK18
    refine c_region ?_
    obtain ⟨b10, o11, rfl, H⟩ := H
    obtain ⟨hi19, hi20, H⟩ := H
    refine L_val (v := .pointer (some ⟨b10, o11 + (v7 : Int).toNat * 2, none⟩)) (y_ix Tryd.underlying51 Tryd.type42 rfl (ev_tv rfl ((hag7 9 rfl).trans rfl)) (ev_tv rfl hs12) hi19 hi20) ?_
    obtain ⟨x12, x13, hc21, H⟩ := H
    refine L_val (v := .agg #[.int .i64 x12, .string x13]) (y_loadAgg Tryd.underlying42 rfl Tryd.type42 rfl (ev_tv rfl rfl) hc21) ?_
    obtain ⟨b14, hb22⟩ : ∃ b14 : Nat, b14 = World.heapSize w9 := ⟨_, rfl⟩
    obtain ⟨w15, hw23⟩ : ∃ w15 : World, w15 = World.alloc w9 (.cells #[.int .i64 0, .string (⟨#[]⟩ : ByteArray)] 42) := ⟨_, rfl⟩
    replace H := H b14 w15 hb22 hw23
    refine L_val (v := .pointer (some ⟨b14, 0, none⟩)) (y_alloc Tryd.type42 rfl rfl hb22 hw23) ?_
    obtain ⟨hc24, H⟩ := H
    obtain ⟨w16, hw26⟩ : ∃ w16 : World, w16 = putCells w15 ⟨b14, 0, none⟩ [.int .i64 x12, .string x13] 0 := ⟨_, rfl⟩
    replace H := H w16 hw26
    refine L_skip (y_storeAgg Tryd.type42 rfl (by intro v hv; simp only [List.mem_cons, List.not_mem_nil, or_false] at hv; rcases hv with rfl | rfl <;> rfl) (ev_tv rfl rfl) (ev_tv rfl rfl) hc24 hw26) ?_
    refine l_nil ?_
    refine then_norm ?_
    refine hK18 _ _ ?_
    clear hK18
    refine c_seq ?_
    intro K27 hK27
    refine c_region ?_
    refine L_val (v := .pointer (some ⟨b14, 0, none⟩)) (Tryd.fa42_0 (ev_tv rfl rfl)) ?_
    obtain ⟨x17, hc28, H⟩ := H
    refine L_val (v := .int .i64 x17) (y_load Tryd.underlying3 rfl (ev_tv rfl rfl) hc28) ?_
    refine L_val (v := .int .i64 a_dir2) (y_move (ev_tv rfl ((hag7 1 rfl).trans rfl))) ?_
    refine L_val (v := .bool (decide ((x17 : Int) = a_dir2))) (y_ieq (ev_tv rfl rfl) (ev_tv rfl rfl)) ?_
    refine L_val (v := .bool (decide ((x17 : Int) = a_dir2))) (y_move (ev_tv rfl rfl)) ?_
    rcases (Decidable.em ((x17 : Int) = a_dir2)) with hb29 | hb29
    · replace H := H.1 hb29
      have hq30 : Value.bool (decide ((x17 : Int) = a_dir2)) = Value.bool true := congrArg Value.bool (decide_eq_true hb29)
      refine G_val (dj := 19) rfl rfl hq30 (v := .pointer a_c1) (y_move (ev_tv rfl ((hag7 0 rfl).trans rfl))) ?_
      obtain ⟨x18, x19, hc31, H⟩ := H
      refine G_val (dj := 19) rfl rfl hq30 (v := .agg #[.int .i64 x18, .string x19]) (y_loadAgg Tryd.underlying42 rfl Tryd.type42 rfl (ev_tv rfl rfl) hc31) ?_
      refine G_call (dj := 19) rfl rfl hq30 (y_call Tryd.call17 (map_ev2 (ev_tv rfl rfl) (ev_tv rfl rfl)) ev_f) (Calls.mono H ?_)
      clear H
      rintro _ w21 ⟨x20, rfl, H⟩
      refine ⟨_, rfl, ?_⟩
      refine L_val (v := .bool x20) (y_pick_t (ev_tv rfl hq30) (ev_tv rfl rfl)) ?_
      refine l_nil ?_
      refine then_norm ?_
      refine hK27 _ _ ?_
      clear hK27
      rcases Bool.eq_false_or_eq_true x20 with hb32 | hb32
      · replace H := H.1 hb32
        have hq33 : Value.bool (x20) = Value.bool true := congrArg Value.bool hb32
        refine cond_t (ev_tv rfl hq33) ?_
        refine c_region ?_
        refine L_val (v := .int .i64 v6) (y_move (ev_tv rfl hs11)) ?_
        obtain ⟨r23, hr34⟩ : ∃ r23 : Int, r23 = IntKind.wrap .i64 (v6 + 1) := ⟨_, rfl⟩
        replace H := H r23 hr34
        refine L_val (v := .int .i64 r23) (y_add (ev_tv rfl rfl) ev_c hr34) ?_
        refine L_val (v := .int .i64 r23) (y_assign (ev_tv rfl rfl)) ?_
        refine l_nil ?_
        refine block_norm ?_
        refine then_norm ?_
        refine hK17 _ _ ?_
        clear hK17
        refine c_region ?_
        obtain ⟨r24, hr35⟩ : ∃ r24 : Int, r24 = IntKind.wrap .i64 (v7 + 1) := ⟨_, rfl⟩
        replace H := H r24 hr35
        refine L_val (v := .int .i64 r24) (y_add (ev_tv rfl hs12) ev_c hr35) ?_
        refine L_val (v := .int .i64 r24) (y_move (ev_tv rfl rfl)) ?_
        refine l_nil ?_
        refine then_norm ?_
        obtain ⟨m25, hm36, H⟩ := H
        exact ⟨_, rfl, (by repeat (first | exact agree_refl | exact hag7 | refine agree_upd rfl ?_ | refine agree_via hag7 rfl ?_)), m25, hm36, _, _, rfl, rfl, H⟩
      · replace H := H.2 hb32
        have hq33 : Value.bool (x20) = Value.bool false := congrArg Value.bool hb32
        refine cond_f (ev_tv rfl hq33) ?_
        refine c_skip ?_
        refine block_norm ?_
        refine then_norm ?_
        refine hK17 _ _ ?_
        clear hK17
        refine c_region ?_
        obtain ⟨r26, hr37⟩ : ∃ r26 : Int, r26 = IntKind.wrap .i64 (v7 + 1) := ⟨_, rfl⟩
        replace H := H r26 hr37
        refine L_val (v := .int .i64 r26) (y_add (ev_tv rfl hs12) ev_c hr37) ?_
        refine L_val (v := .int .i64 r26) (y_move (ev_tv rfl rfl)) ?_
        refine l_nil ?_
        refine then_norm ?_
        obtain ⟨m27, hm38, H⟩ := H
        exact ⟨_, rfl, (by repeat (first | exact agree_refl | exact hag7 | refine agree_upd rfl ?_ | refine agree_via hag7 rfl ?_)), m27, hm38, _, _, hs11, rfl, H⟩
    · replace H := H.2 hb29
      have hq30 : Value.bool (decide ((x17 : Int) = a_dir2)) = Value.bool false := congrArg Value.bool (decide_eq_false hb29)
      refine G_not (b' := false) (dj := 19) rfl rfl hq30 rfl ?_
      refine G_not (b' := false) (dj := 19) rfl rfl hq30 rfl ?_
      refine G_not (b' := false) (dj := 19) rfl rfl hq30 rfl ?_
      refine L_val (v := .bool false) (y_pick_f (ev_tv rfl hq30) ev_c) ?_
      refine l_nil ?_
      refine then_norm ?_
      refine hK27 _ _ ?_
      clear hK27
      refine cond_f (ev_tv rfl rfl) ?_
      refine c_skip ?_
      refine block_norm ?_
      refine then_norm ?_
      refine hK17 _ _ ?_
      clear hK17
      refine c_region ?_
      obtain ⟨r28, hr39⟩ : ∃ r28 : Int, r28 = IntKind.wrap .i64 (v7 + 1) := ⟨_, rfl⟩
      replace H := H r28 hr39
      refine L_val (v := .int .i64 r28) (y_add (ev_tv rfl hs12) ev_c hr39) ?_
      refine L_val (v := .int .i64 r28) (y_move (ev_tv rfl rfl)) ?_
      refine l_nil ?_
      refine then_norm ?_
      obtain ⟨m29, hm40, H⟩ := H
      exact ⟨_, rfl, (by repeat (first | exact agree_refl | exact hag7 | refine agree_upd rfl ?_ | refine agree_via hag7 rfl ?_)), m29, hm40, _, _, hs11, rfl, H⟩
  · replace H := H.2 hb15
    have hq16 : Value.bool (decide ((v7 : Int) < ((x3l : Nat) : Int))) = Value.bool false := congrArg Value.bool (decide_eq_false hb15)
    refine cond_f (ev_tv rfl hq16) ?_
    refine c_exit ?_
    refine then_exit ?_
    refine then_exit ?_
    refine block_hit ?_
    refine then_norm ?_
    refine hK3 _ _ ?_
    clear hK3
    refine c_seq ?_
    intro K41 hK41
    refine c_region ?_
    refine L_val (v := .int .i64 v6) (y_move (ev_tv rfl hs11)) ?_
    refine L_val (v := .int .i64 v6) (y_assign (ev_tv rfl rfl)) ?_
    refine l_nil ?_
    refine then_norm ?_
    refine hK41 _ _ ?_
    clear hK41
    refine c_ret ?_
    exact body_1 rfl (ev_tv rfl rfl) H

/-- (parapet/parapetref19.Cache).ForgetDir -/
def Vc20 (a_c1 : Option Addr) (a_dir2 : Int) (w : World) (R : Ending → World → Prop) : Prop :=
  (∃ I5 : Nat → Int → Int → World → Prop, (∃ m, I5 m 0 0 w) ∧ ∀ (m5 : Nat) (v3 : Int) (v4 : Int) (w6 : World), I5 m5 v3 v4 w6 → (∃ (b7 o8 : Nat), a_c1 = some ⟨b7, o8, none⟩ ∧ (∃ x9 : Option Addr, ∃ x9l : Nat, ∃ x9c : Nat, World.cell? w6 ⟨b7, o8 + 1, none⟩ = some (.slice x9 x9l x9c) ∧ ((((v4 : Int) < ((x9l : Nat) : Int)) → (∃ x10 : Option Addr, ∃ x10l : Nat, ∃ x10c : Nat, World.cell? w6 ⟨b7, o8 + 1, none⟩ = some (.slice x10 x10l x10c) ∧ (∃ (b11 o12 : Nat), x10 = some ⟨b11, o12, none⟩ ∧ ((0 : Int) ≤ v4 ∧ v4 < ((x10l : Nat) : Int) ∧ (∃ x13 : Int, World.cell? w6 ⟨b11, o12 + (v4 : Int).toNat * 4, none⟩ = some (.int .i64 x13) ∧ ((((x13 : Int) = a_dir2) → (Calls Tryd.prog 36 #[.pointer (some ⟨b7, o8, none⟩), .int .i64 v4] w6 fun e w14 => e = .returned (.tuple #[]) ∧ (∀ r16 : Int, r16 = IntKind.wrap .i64 (v3 + 1) → (∃ m17, m17 < m5 ∧ I5 m17 r16 v4 w14)))) ∧ ((¬ ((x13 : Int) = a_dir2)) → (∀ r18 : Int, r18 = IntKind.wrap .i64 (v4 + 1) → (∃ m19, m19 < m5 ∧ I5 m19 v3 r18 w6))))))))) ∧ ((¬ ((v4 : Int) < ((x9l : Nat) : Int))) → R (.returned (.int .i64 v3)) w6)))))

theorem vc20 {a_c1 : Option Addr} {a_dir2 : Int} {w : World} {R : Ending → World → Prop} (H : Vc20 a_c1 a_dir2 w R) : Calls Tryd.prog 20 #[.pointer a_c1, .int .i64 a_dir2] w R := by
  unfold Vc20 at H
  refine calls_start [.pointer a_c1, .int .i64 a_dir2] Tryd.func20 rfl Tryd.ntmps20 rfl ?_
  refine c_seq ?_
  intro K1 hK1
  refine c_region ?_
  refine L_val (v := .int .i64 0) (y_assign ev_c) ?_
  refine l_nil ?_
  refine then_norm ?_
  refine hK1 _ _ ?_
  clear hK1
  refine c_seq ?_
  intro K2 hK2
  refine c_region ?_
  refine L_val (v := .int .i64 0) (y_assign ev_c) ?_
  refine l_nil ?_
  refine then_norm ?_
  refine hK2 _ _ ?_
  clear hK2
  refine c_seq ?_
  intro K3 hK3
  refine c_seq ?_
  intro K4 hK4
  refine c_region ?_
  refine L_val (v := .int .i64 0) (y_assign ev_c) ?_
  refine l_nil ?_
  refine then_norm ?_
  refine hK4 _ _ ?_
  clear hK4
  refine c_block ?_
  obtain ⟨I5, ⟨m9, HI10⟩, H⟩ := H
  refine loop_fr ([(5, 31)]) (fun m ff ww => ∃ (v3 : Int) (v4 : Int), ff 5 = (.int .i64 v3 : Value) ∧ ff 6 = (.int .i64 v4 : Value) ∧ I5 m v3 v4 ww) m9 ⟨0, 0, rfl, rfl, HI10⟩ ?_
  rintro m5 f6 w6 hag7 ⟨v3, v4, hs11, hs12, HI8⟩
  replace H := H m5 v3 v4 w6 HI8
  refine c_seq ?_
  intro K13 hK13
  refine c_seq ?_
  intro K14 hK14
  refine c_region ?_
  refine L_val (v := .int .i64 v4) (y_move (ev_tv rfl hs12)) ?_
  refine L_val (v := .pointer a_c1) (y_move (ev_tv rfl ((hag7 0 rfl).trans rfl))) ?_
  obtain ⟨b7, o8, rfl, H⟩ := H
  refine L_val (v := .pointer (some ⟨b7, o8, none⟩)) (y_nilCheck (ev_tv rfl rfl)) ?_
  refine L_val (v := .pointer (some ⟨b7, o8 + 1, none⟩)) (Tryd.fa40_1 (ev_tv rfl rfl)) ?_
  obtain ⟨x9, x9l, x9c, hc15, H⟩ := H
  refine L_val (v := .slice x9 x9l x9c) (y_load Tryd.underlying37 rfl (ev_tv rfl rfl) hc15) ?_
  refine L_val (v := .int .i64 ((x9l : Nat) : Int)) (y_len Tryd.underlying37 rfl (map_ev1 (ev_tv rfl rfl))) ?_
  refine L_val (v := .bool (decide ((v4 : Int) < ((x9l : Nat) : Int)))) (y_lss (ev_tv rfl rfl) (ev_tv rfl rfl)) ?_
  refine l_nil ?_
  refine then_norm ?_
  refine hK14 _ _ ?_
  clear hK14
  rcases (Decidable.em ((v4 : Int) < ((x9l : Nat) : Int))) with hb16 | hb16
  · replace H := H.1 hb16
    have hq17 : Value.bool (decide ((v4 : Int) < ((x9l : Nat) : Int))) = Value.bool true := congrArg Value.bool (decide_eq_true hb16)
    refine cond_t (ev_tv rfl hq17) ?_
    refine c_skip ?_
    refine then_norm ?_
    refine hK13 _ _ ?_
    clear hK13
    refine c_block ?_
    refine c_seq ?_
    intro K18 hK18
    refine c_seq ?_
    intro K19 hK19
    refine c_region ?_
    refine L_val (v := .pointer (some ⟨b7, o8, none⟩)) (y_move (ev_tv rfl ((hag7 0 rfl).trans rfl))) ?_
    refine L_val (v := .pointer (some ⟨b7, o8, none⟩)) (y_nilCheck (ev_tv rfl rfl)) ?_
    refine L_val (v := .pointer (some ⟨b7, o8 + 1, none⟩)) (Tryd.fa40_1 (ev_tv rfl rfl)) ?_
    obtain ⟨x10, x10l, x10c, hc20, H⟩ := H
    refine L_val (v := .slice x10 x10l x10c) (y_load Tryd.underlying37 rfl (ev_tv rfl rfl) hc20) ?_
    refine L_val (v := .int .i64 v4) (y_move (ev_tv rfl hs12)) ?_
    obtain ⟨b11, o12, rfl, H⟩ := H
    obtain ⟨hi21, hi22, H⟩ := H
    refine L_val (v := .pointer (some ⟨b11, o12 + (v4 : Int).toNat * 4, none⟩)) (y_ix Tryd.underlying37 Tryd.type54 rfl (ev_tv rfl rfl) (ev_tv rfl rfl) hi21 hi22) ?_
    refine L_val (v := .pointer (some ⟨b11, o12 + (v4 : Int).toNat * 4, none⟩)) (Tryd.fa54_0 (ev_tv rfl rfl)) ?_
    refine L_val (v := .pointer (some ⟨b11, o12 + (v4 : Int).toNat * 4, none⟩)) (Tryd.fa42_0 (ev_tv rfl rfl)) ?_
    obtain ⟨x13, hc23, H⟩ := H
    refine L_val (v := .int .i64 x13) (y_load Tryd.underlying3 rfl (ev_tv rfl rfl) hc23) ?_
    refine L_val (v := .int .i64 a_dir2) (y_move (ev_tv rfl ((hag7 1 rfl).trans rfl))) ?_
    refine L_val (v := .bool (decide ((x13 : Int) = a_dir2))) (y_ieq (ev_tv rfl rfl) (ev_tv rfl rfl)) ?_
    refine l_nil ?_
    refine then_norm ?_
    refine hK19 _ _ ?_
    clear hK19
    rcases (Decidable.em ((x13 : Int) = a_dir2)) with hb24 | hb24
    · replace H := H.1 hb24
      have hq25 : Value.bool (decide ((x13 : Int) = a_dir2)) = Value.bool true := congrArg Value.bool (decide_eq_true hb24)
      refine cond_t (ev_tv rfl hq25) ?_
      refine c_seq ?_
      intro K26 hK26
      refine c_region ?_
      refine L_val (v := .pointer (some ⟨b7, o8, none⟩)) (y_move (ev_tv rfl ((hag7 0 rfl).trans rfl))) ?_
      refine L_val (v := .int .i64 v4) (y_move (ev_tv rfl hs12)) ?_
      refine L_call (y_call Tryd.call36 (map_ev2 (ev_tv rfl rfl) (ev_tv rfl rfl)) ev_f) (Calls.mono H ?_)
      clear H
      rintro _ w14 ⟨rfl, H⟩
      refine ⟨_, rfl, ?_⟩
      refine l_nil ?_
      refine then_norm ?_
      refine hK26 _ _ ?_
      clear hK26
      refine c_seq ?_
      intro K27 hK27
      refine c_region ?_
      refine L_val (v := .int .i64 v3) (y_move (ev_tv rfl hs11)) ?_
      obtain ⟨r16, hr28⟩ : ∃ r16 : Int, r16 = IntKind.wrap .i64 (v3 + 1) := ⟨_, rfl⟩
      replace H := H r16 hr28
      refine L_val (v := .int .i64 r16) (y_add (ev_tv rfl rfl) ev_c hr28) ?_
      refine L_val (v := .int .i64 r16) (y_assign (ev_tv rfl rfl)) ?_
      refine l_nil ?_
      refine then_norm ?_
      refine hK27 _ _ ?_
      clear hK27
      refine c_exit ?_
      refine then_exit ?_
      refine block_hit ?_
      refine then_norm ?_
      obtain ⟨m17, hm29, H⟩ := H
      exact ⟨_, rfl, (by repeat (first | exact agree_refl | exact hag7 | refine agree_upd rfl ?_ | refine agree_via hag7 rfl ?_)), m17, hm29, _, _, rfl, hs12, H⟩
    · replace H := H.2 hb24
      have hq25 : Value.bool (decide ((x13 : Int) = a_dir2)) = Value.bool false := congrArg Value.bool (decide_eq_false hb24)
      refine cond_f (ev_tv rfl hq25) ?_
      refine c_skip ?_
      refine then_norm ?_
      refine hK18 _ _ ?_
      clear hK18
      refine c_region ?_
      refine L_val (v := .int .i64 v4) (y_move (ev_tv rfl hs12)) ?_
      obtain ⟨r18, hr30⟩ : ∃ r18 : Int, r18 = IntKind.wrap .i64 (v4 + 1) := ⟨_, rfl⟩
      replace H := H r18 hr30
      refine L_val (v := .int .i64 r18) (y_add (ev_tv rfl rfl) ev_c hr30) ?_
      refine L_val (v := .int .i64 r18) (y_assign (ev_tv rfl rfl)) ?_
      refine l_nil ?_
      refine block_norm ?_
      refine then_norm ?_
      obtain ⟨m19, hm31, H⟩ := H
      exact ⟨_, rfl, (by repeat (first | exact agree_refl | exact hag7 | refine agree_upd rfl ?_ | refine agree_via hag7 rfl ?_)), m19, hm31, _, _, hs11, rfl, H⟩
  · replace H := H.2 hb16
    have hq17 : Value.bool (decide ((v4 : Int) < ((x9l : Nat) : Int))) = Value.bool false := congrArg Value.bool (decide_eq_false hb16)
    refine cond_f (ev_tv rfl hq17) ?_
    refine c_exit ?_
    refine then_exit ?_
    refine then_exit ?_
    refine block_hit ?_
    refine then_norm ?_
    refine hK3 _ _ ?_
    clear hK3
    refine c_seq ?_
    intro K32 hK32
    refine c_region ?_
    refine L_val (v := .int .i64 v3) (y_move (ev_tv rfl hs11)) ?_
    refine L_val (v := .int .i64 v3) (y_assign (ev_tv rfl rfl)) ?_
    refine l_nil ?_
    refine then_norm ?_
    refine hK32 _ _ ?_
    clear hK32
    refine c_ret ?_
    exact body_1 rfl (ev_tv rfl rfl) H

/-- (parapet/rcu.Domain).Waiting -/
def Vc21 (a_d1 : Option Addr) (w : World) (R : Ending → World → Prop) : Prop :=
  (Calls Tryd.prog 40 #[.pointer a_d1] w fun e w3 => ∃ x2 : Bool, e = .returned (.bool x2) ∧ (((x2 = true) → (∃ (b5 o6 : Nat), a_d1 = some ⟨b5, o6, none⟩ ∧ (∃ x7 : Option Addr, ∃ x7l : Nat, ∃ x7c : Nat, World.cell? w3 ⟨b5, o6 + 3, none⟩ = some (.slice x7 x7l x7c) ∧ (∃ I10 : Nat → Option Addr → Nat → Nat → Int → World → Prop, (∃ m, I10 m none 0 0 0 w3) ∧ ∀ (m10 : Nat) (v8 : Option Addr) (v8l : Nat) (v8c : Nat) (v9 : Int) (w11 : World), I10 m10 v8 v8l v8c v9 w11 → ((((v9 : Int) < ((x7l : Nat) : Int)) → (∃ (b12 o13 : Nat), x7 = some ⟨b12, o13, none⟩ ∧ ((0 : Int) ≤ v9 ∧ v9 < ((x7l : Nat) : Int) ∧ (∃ x14 : Int, ∃ x15 : Int, CellsAt w11 ⟨b12, o13 + (v9 : Int).toNat * 2, none⟩ [.int .i64 x14, .int .i64 x15] ∧ (∀ (b16 : Nat) (w17 : World), b16 = World.heapSize w11 → w17 = World.alloc w11 (.cells #[.int .i64 0, .int .i64 0] 86) → ((∀ j, j < 2 → (World.cell? w17 (Addr.add ⟨b16, 0, none⟩ j)).isSome = true ∧ World.frozen? w17 (Addr.add ⟨b16, 0, none⟩ j) = false) ∧ ∀ w18 : World, w18 = putCells w17 ⟨b16, 0, none⟩ [.int .i64 x14, .int .i64 x15] 0 → (∃ x19 : Int, World.cell? w18 ⟨b16, 0, none⟩ = some (.int .i64 x19) ∧ (∀ (b20 : Nat) (w21 : World), b20 = World.heapSize w18 → w21 = World.alloc w18 (.cells #[.int .i64 x19] 3) → (∃ x23 : Option Addr, ∃ x23l : Nat, ∃ x23c : Nat, ∃ w22 : World, (Builtin.append_ #[38, 38] 38 #[.slice v8 v8l v8c, .slice (some ⟨b20, 0, none⟩) 1 1]).run Tryd.prog w21 = .ok (.slice x23 x23l x23c) w22 ∧ (∀ r24 : Int, r24 = IntKind.wrap .i64 (v9 + 1) → (∃ m25, m25 < m10 ∧ I10 m25 x23 x23l x23c r24 w22))))))))))) ∧ ((¬ ((v9 : Int) < ((x7l : Nat) : Int))) → R (.returned (.slice v8 v8l v8c)) w11)))))) ∧ ((x2 = false) → R (.returned (.slice none 0 0)) w3)))

theorem vc21 {a_d1 : Option Addr} {w : World} {R : Ending → World → Prop} (H : Vc21 a_d1 w R) : Calls Tryd.prog 21 #[.pointer a_d1] w R := by
  unfold Vc21 at H
  refine calls_start [.pointer a_d1] Tryd.func21 rfl Tryd.ntmps21 rfl ?_
  refine c_seq ?_
  intro K1 hK1
  refine c_region ?_
  refine L_val (v := .slice none 0 0) (y_assign ev_c) ?_
  refine l_nil ?_
  refine then_norm ?_
  refine hK1 _ _ ?_
  clear hK1
  refine c_seq ?_
  intro K2 hK2
  refine c_seq ?_
  intro K3 hK3
  refine c_region ?_
  refine L_val (v := .pointer a_d1) (y_move (ev_tv rfl rfl)) ?_
  refine L_call (y_call Tryd.call40 (map_ev1 (ev_tv rfl rfl)) ev_f) (Calls.mono H ?_)
  clear H
  rintro _ w3 ⟨x2, rfl, H⟩
  refine ⟨_, rfl, ?_⟩
  rcases Bool.eq_false_or_eq_true x2 with hb4 | hb4
  · replace H := H.1 hb4
    have hq5 : Value.bool (x2) = Value.bool true := congrArg Value.bool hb4
    refine L_val (v := .bool false) (y_not_t (ev_tv rfl hq5)) ?_
    refine l_nil ?_
    refine then_norm ?_
    refine hK3 _ _ ?_
    clear hK3
    refine cond_f (ev_tv rfl rfl) ?_
    refine c_skip ?_
    refine then_norm ?_
    refine hK2 _ _ ?_
    clear hK2
    refine c_seq ?_
    intro K6 hK6
    refine c_region ?_
    refine L_val (v := .slice none 0 0) (y_assign ev_c) ?_
    refine l_nil ?_
    refine then_norm ?_
    refine hK6 _ _ ?_
    clear hK6
    refine c_seq ?_
    intro K7 hK7
    refine c_seq ?_
    intro K8 hK8
    refine c_region ?_
    refine L_val (v := .pointer a_d1) (y_move (ev_tv rfl rfl)) ?_
    obtain ⟨b5, o6, rfl, H⟩ := H
    refine L_val (v := .pointer (some ⟨b5, o6, none⟩)) (y_nilCheck (ev_tv rfl rfl)) ?_
    refine L_val (v := .pointer (some ⟨b5, o6 + 3, none⟩)) (Tryd.fa75_3 (ev_tv rfl rfl)) ?_
    obtain ⟨x7, x7l, x7c, hc9, H⟩ := H
    refine L_val (v := .slice x7 x7l x7c) (y_load Tryd.underlying73 rfl (ev_tv rfl rfl) hc9) ?_
    refine L_val (v := .int .i64 ((x7l : Nat) : Int)) (y_len Tryd.underlying73 rfl (map_ev1 (ev_tv rfl rfl))) ?_
    refine L_val (v := .int .i64 0) (y_move ev_c) ?_
    refine l_nil ?_
    refine then_norm ?_
    refine hK8 _ _ ?_
    clear hK8
    refine c_block ?_
    obtain ⟨I10, ⟨m14, HI15⟩, H⟩ := H
    refine loop_fr ([(3, 3), (5, 5), (14, 23)]) (fun m ff ww => ∃ (v8 : Option Addr) (v8l : Nat) (v8c : Nat) (v9 : Int), ff 3 = (.slice v8 v8l v8c : Value) ∧ ff 14 = (.int .i64 v9 : Value) ∧ I10 m v8 v8l v8c v9 ww) m14 ⟨none, 0, 0, 0, rfl, rfl, HI15⟩ ?_
    rintro m10 f11 w11 hag12 ⟨v8, v8l, v8c, v9, hs16, hs17, HI13⟩
    replace H := H m10 v8 v8l v8c v9 w11 HI13
    refine c_seq ?_
    intro K18 hK18
    refine c_region ?_
    refine L_val (v := .bool (decide ((v9 : Int) < ((x7l : Nat) : Int)))) (y_lss (ev_tv rfl hs17) (ev_tv rfl ((hag12 13 rfl).trans rfl))) ?_
    refine l_nil ?_
    refine then_norm ?_
    refine hK18 _ _ ?_
    clear hK18
    refine c_seq ?_
    intro K19 hK19
    rcases (Decidable.em ((v9 : Int) < ((x7l : Nat) : Int))) with hb20 | hb20
    · replace H := H.1 hb20
      have hq21 : Value.bool (decide ((v9 : Int) < ((x7l : Nat) : Int))) = Value.bool true := congrArg Value.bool (decide_eq_true hb20)
      refine cond_t (ev_tv rfl hq21) ?_
      refine c_skip ?_
      refine then_norm ?_
      refine hK19 _ _ ?_
      clear hK19
      refine c_seq ?_
      intro K22 hK22
      refine c_block ?_
      refine c_seq ?_
      intro K23 hK23
      refine c_region ?_
      obtain ⟨b12, o13, rfl, H⟩ := H
      obtain ⟨hi24, hi25, H⟩ := H
      refine L_val (v := .pointer (some ⟨b12, o13 + (v9 : Int).toNat * 2, none⟩)) (y_ix Tryd.underlying73 Tryd.type86 rfl (ev_tv rfl ((hag12 12 rfl).trans rfl)) (ev_tv rfl hs17) hi24 hi25) ?_
      obtain ⟨x14, x15, hc26, H⟩ := H
      refine L_val (v := .agg #[.int .i64 x14, .int .i64 x15]) (y_loadAgg Tryd.underlying86 rfl Tryd.type86 rfl (ev_tv rfl rfl) hc26) ?_
      obtain ⟨b16, hb27⟩ : ∃ b16 : Nat, b16 = World.heapSize w11 := ⟨_, rfl⟩
      obtain ⟨w17, hw28⟩ : ∃ w17 : World, w17 = World.alloc w11 (.cells #[.int .i64 0, .int .i64 0] 86) := ⟨_, rfl⟩
      replace H := H b16 w17 hb27 hw28
      refine L_val (v := .pointer (some ⟨b16, 0, none⟩)) (y_alloc Tryd.type86 rfl rfl hb27 hw28) ?_
      obtain ⟨hc29, H⟩ := H
      obtain ⟨w18, hw31⟩ : ∃ w18 : World, w18 = putCells w17 ⟨b16, 0, none⟩ [.int .i64 x14, .int .i64 x15] 0 := ⟨_, rfl⟩
      replace H := H w18 hw31
      refine L_skip (y_storeAgg Tryd.type86 rfl (by intro v hv; simp only [List.mem_cons, List.not_mem_nil, or_false] at hv; rcases hv with rfl | rfl <;> rfl) (ev_tv rfl rfl) (ev_tv rfl rfl) hc29 hw31) ?_
      refine l_nil ?_
      refine then_norm ?_
      refine hK23 _ _ ?_
      clear hK23
      refine c_region ?_
      refine L_val (v := .slice v8 v8l v8c) (y_move (ev_tv rfl hs16)) ?_
      refine L_val (v := .pointer (some ⟨b16, 0, none⟩)) (Tryd.fa86_0 (ev_tv rfl rfl)) ?_
      obtain ⟨x19, hc32, H⟩ := H
      refine L_val (v := .int .i64 x19) (y_load Tryd.underlying3 rfl (ev_tv rfl rfl) hc32) ?_
      obtain ⟨b20, hb33⟩ : ∃ b20 : Nat, b20 = World.heapSize w18 := ⟨_, rfl⟩
      obtain ⟨w21, hw34⟩ : ∃ w21 : World, w21 = World.alloc w18 (.cells #[.int .i64 x19] 3) := ⟨_, rfl⟩
      replace H := H b20 w21 hb33 hw34
      refine L_val (v := .slice (some ⟨b20, 0, none⟩) 1 1) (y_buildSlice (parts_ev1 (ev_tv rfl rfl)) hb33 hw34 (by kernel_rfl)) ?_
      obtain ⟨x23, x23l, x23c, w22, hc35, H⟩ := H
      refine L_val (v := .slice x23 x23l x23c) (y_bi_append (map_ev2 (ev_tv rfl rfl) (ev_tv rfl rfl)) hc35) ?_
      refine L_val (v := .slice x23 x23l x23c) (y_assign (ev_tv rfl rfl)) ?_
      refine l_nil ?_
      refine block_norm ?_
      refine then_norm ?_
      refine hK22 _ _ ?_
      clear hK22
      refine c_region ?_
      obtain ⟨r24, hr36⟩ : ∃ r24 : Int, r24 = IntKind.wrap .i64 (v9 + 1) := ⟨_, rfl⟩
      replace H := H r24 hr36
      refine L_val (v := .int .i64 r24) (y_add (ev_tv rfl hs17) ev_c hr36) ?_
      refine L_val (v := .int .i64 r24) (y_move (ev_tv rfl rfl)) ?_
      refine l_nil ?_
      refine then_norm ?_
      obtain ⟨m25, hm37, H⟩ := H
      exact ⟨_, rfl, (by repeat (first | exact agree_refl | exact hag12 | refine agree_upd rfl ?_ | refine agree_via hag12 rfl ?_)), m25, hm37, _, _, _, _, rfl, rfl, H⟩
    · replace H := H.2 hb20
      have hq21 : Value.bool (decide ((v9 : Int) < ((x7l : Nat) : Int))) = Value.bool false := congrArg Value.bool (decide_eq_false hb20)
      refine cond_f (ev_tv rfl hq21) ?_
      refine c_exit ?_
      refine then_exit ?_
      refine then_exit ?_
      refine block_hit ?_
      refine then_norm ?_
      refine hK7 _ _ ?_
      clear hK7
      refine c_seq ?_
      intro K38 hK38
      refine c_region ?_
      refine L_val (v := .slice v8 v8l v8c) (y_move (ev_tv rfl hs16)) ?_
      refine L_val (v := .slice v8 v8l v8c) (y_assign (ev_tv rfl rfl)) ?_
      refine l_nil ?_
      refine then_norm ?_
      refine hK38 _ _ ?_
      clear hK38
      refine c_ret ?_
      exact body_1 rfl (ev_tv rfl rfl) H
  · replace H := H.2 hb4
    have hq5 : Value.bool (x2) = Value.bool false := congrArg Value.bool hb4
    refine L_val (v := .bool true) (y_not_f (ev_tv rfl hq5)) ?_
    refine l_nil ?_
    refine then_norm ?_
    refine hK3 _ _ ?_
    clear hK3
    refine cond_t (ev_tv rfl rfl) ?_
    refine c_seq ?_
    intro K39 hK39
    refine c_region ?_
    refine L_val (v := .slice none 0 0) (y_assign ev_c) ?_
    refine l_nil ?_
    refine then_norm ?_
    refine hK39 _ _ ?_
    clear hK39
    refine c_ret ?_
    refine then_ret ?_
    exact body_1 rfl (ev_tv rfl rfl) H

/-- (parapet/namec.Cache).Kept -/
def Vc22 (a_c1 : Option Addr) (w : World) (R : Ending → World → Prop) : Prop :=
  (Calls Tryd.prog 34 #[.pointer a_c1] w fun e w3 => ∃ x2 : Bool, e = .returned (.bool x2) ∧ (((x2 = true) → (∃ (b5 o6 : Nat), a_c1 = some ⟨b5, o6, none⟩ ∧ (∃ x7 : Option Addr, ∃ x7l : Nat, ∃ x7c : Nat, World.cell? w3 ⟨b5, o6 + 3, none⟩ = some (.slice x7 x7l x7c) ∧ (Calls Tryd.prog 41 #[.slice x7 x7l x7c] w3 fun e w9 => ∃ x8 : Option Addr, ∃ x8l : Nat, ∃ x8c : Nat, e = .returned (.slice x8 x8l x8c) ∧ R (.returned (.slice x8 x8l x8c)) w9)))) ∧ ((x2 = false) → R (.returned (.slice none 0 0)) w3)))

theorem vc22 {a_c1 : Option Addr} {w : World} {R : Ending → World → Prop} (H : Vc22 a_c1 w R) : Calls Tryd.prog 22 #[.pointer a_c1] w R := by
  unfold Vc22 at H
  refine calls_start [.pointer a_c1] Tryd.func22 rfl Tryd.ntmps22 rfl ?_
  refine c_seq ?_
  intro K1 hK1
  refine c_region ?_
  refine L_val (v := .slice none 0 0) (y_assign ev_c) ?_
  refine l_nil ?_
  refine then_norm ?_
  refine hK1 _ _ ?_
  clear hK1
  refine c_seq ?_
  intro K2 hK2
  refine c_seq ?_
  intro K3 hK3
  refine c_region ?_
  refine L_val (v := .pointer a_c1) (y_move (ev_tv rfl rfl)) ?_
  refine L_call (y_call Tryd.call34 (map_ev1 (ev_tv rfl rfl)) ev_f) (Calls.mono H ?_)
  clear H
  rintro _ w3 ⟨x2, rfl, H⟩
  refine ⟨_, rfl, ?_⟩
  rcases Bool.eq_false_or_eq_true x2 with hb4 | hb4
  · replace H := H.1 hb4
    have hq5 : Value.bool (x2) = Value.bool true := congrArg Value.bool hb4
    refine L_val (v := .bool false) (y_not_t (ev_tv rfl hq5)) ?_
    refine l_nil ?_
    refine then_norm ?_
    refine hK3 _ _ ?_
    clear hK3
    refine cond_f (ev_tv rfl rfl) ?_
    refine c_skip ?_
    refine then_norm ?_
    refine hK2 _ _ ?_
    clear hK2
    refine c_seq ?_
    intro K6 hK6
    refine c_region ?_
    refine L_val (v := .pointer a_c1) (y_move (ev_tv rfl rfl)) ?_
    obtain ⟨b5, o6, rfl, H⟩ := H
    refine L_val (v := .pointer (some ⟨b5, o6, none⟩)) (y_nilCheck (ev_tv rfl rfl)) ?_
    refine L_val (v := .pointer (some ⟨b5, o6 + 3, none⟩)) (Tryd.fa78_3 (ev_tv rfl rfl)) ?_
    obtain ⟨x7, x7l, x7c, hc7, H⟩ := H
    refine L_val (v := .slice x7 x7l x7c) (y_load Tryd.underlying51 rfl (ev_tv rfl rfl) hc7) ?_
    refine L_call (y_call Tryd.call41 (map_ev1 (ev_tv rfl rfl)) ev_f) (Calls.mono H ?_)
    clear H
    rintro _ w9 ⟨x8, x8l, x8c, rfl, H⟩
    refine ⟨_, rfl, ?_⟩
    refine L_val (v := .slice x8 x8l x8c) (y_assign (ev_tv rfl rfl)) ?_
    refine l_nil ?_
    refine then_norm ?_
    refine hK6 _ _ ?_
    clear hK6
    refine c_ret ?_
    exact body_1 rfl (ev_tv rfl rfl) H
  · replace H := H.2 hb4
    have hq5 : Value.bool (x2) = Value.bool false := congrArg Value.bool hb4
    refine L_val (v := .bool true) (y_not_f (ev_tv rfl hq5)) ?_
    refine l_nil ?_
    refine then_norm ?_
    refine hK3 _ _ ?_
    clear hK3
    refine cond_t (ev_tv rfl rfl) ?_
    refine c_seq ?_
    intro K8 hK8
    refine c_region ?_
    refine L_val (v := .slice none 0 0) (y_assign ev_c) ?_
    refine l_nil ?_
    refine then_norm ?_
    refine hK8 _ _ ?_
    clear hK8
    refine c_ret ?_
    refine then_ret ?_
    exact body_1 rfl (ev_tv rfl rfl) H

/-- parapet/parapetref17.NewBlocks -/
def Vc28 (a_n1 : Int) (w : World) (R : Ending → World → Prop) : Prop :=
  (∀ (b2 : Nat) (w3 : World), b2 = World.heapSize w → w3 = World.alloc w (.cells #[.slice none 0 0] 91) → (∃ I7 : Nat → Int → World → Prop, (∃ m, I7 m 0 w3) ∧ ∀ (m5 : Nat) (v4 : Int) (w6 : World), I7 m5 v4 w6 → ((((v4 : Int) < a_n1) → (∃ x7 : Option Addr, ∃ x7l : Nat, ∃ x7c : Nat, World.cell? (w6.drew) ⟨b2, 0, none⟩ = some (.slice x7 x7l x7c) ∧ (∃ x9 : Option Addr, ∃ x9l : Nat, ∃ x9c : Nat, ∃ w8 : World, (Instr.makeSlice 71 (.int .i64 512) (.int .i64 512)).run Tryd.prog (w6.drew) = .ok (.slice x9 x9l x9c) w8 ∧ (World.cell? w8 ⟨b2, 0, none⟩ = some (.slice x7 x7l x7c) ∧ (∀ (b10 : Nat) (w11 : World), b10 = World.heapSize w8 → w11 = World.alloc w8 (.cells #[.slice x9 x9l x9c] 71) → (World.cell? w11 ⟨b2, 0, none⟩ = some (.slice x7 x7l x7c) ∧ (∃ x13 : Option Addr, ∃ x13l : Nat, ∃ x13c : Nat, ∃ w12 : World, (Builtin.append_ #[89, 89] 89 #[.slice x7 x7l x7c, .slice (some ⟨b10, 0, none⟩) 1 1]).run Tryd.prog w11 = .ok (.slice x13 x13l x13c) w12 ∧ ((World.cell? w12 ⟨b2, 0, none⟩).isSome = true ∧ World.frozen? w12 ⟨b2, 0, none⟩ = false ∧ ∀ w14 : World, w14 = World.setCell w12 ⟨b2, 0, none⟩ (.slice x13 x13l x13c) → (∀ r15 : Int, r15 = IntKind.wrap .i64 (v4 + 1) → (∃ m16, m16 < m5 ∧ I7 m16 r15 w14)))))))))) ∧ ((¬ ((v4 : Int) < a_n1)) → R (.returned (.pointer (some ⟨b2, 0, none⟩))) w6))))

theorem vc28 {a_n1 : Int} {w : World} {R : Ending → World → Prop} (H : Vc28 a_n1 w R) : Calls Tryd.prog 28 #[.int .i64 a_n1] w R := by
  unfold Vc28 at H
  refine calls_start [.int .i64 a_n1] Tryd.func28 rfl Tryd.ntmps28 rfl ?_
  refine c_seq ?_
  intro K1 hK1
  refine c_region ?_
  refine L_val (v := .pointer none) (y_assign ev_c) ?_
  refine l_nil ?_
  refine then_norm ?_
  refine hK1 _ _ ?_
  clear hK1
  refine c_seq ?_
  intro K2 hK2
  refine c_region ?_
  refine L_val (v := .agg #[.slice none 0 0]) (y_build rfl (by kernel_rfl)) ?_
  obtain ⟨b2, hb3⟩ : ∃ b2 : Nat, b2 = World.heapSize w := ⟨_, rfl⟩
  obtain ⟨w3, hw4⟩ : ∃ w3 : World, w3 = World.alloc w (.cells #[.slice none 0 0] 91) := ⟨_, rfl⟩
  replace H := H b2 w3 hb3 hw4
  refine L_val (v := .pointer (some ⟨b2, 0, none⟩)) (y_box (ev_tv rfl rfl) rfl hb3 hw4) ?_
  refine L_val (v := .pointer (some ⟨b2, 0, none⟩)) (y_assign (ev_tv rfl rfl)) ?_
  refine l_nil ?_
  refine then_norm ?_
  refine hK2 _ _ ?_
  clear hK2
  refine c_seq ?_
  intro K5 hK5
  refine c_seq ?_
  intro K6 hK6
  refine c_region ?_
  refine L_val (v := .int .i64 0) (y_assign ev_c) ?_
  refine l_nil ?_
  refine then_norm ?_
  refine hK6 _ _ ?_
  clear hK6
  refine c_block ?_
  obtain ⟨I7, ⟨m11, HI12⟩, H⟩ := H
  refine loop_fr ([(4, 4), (7, 21)]) (fun m ff ww => ∃ (v4 : Int), ff 4 = (.int .i64 v4 : Value) ∧ I7 m v4 ww) m11 ⟨0, rfl, HI12⟩ ?_
  rintro m5 f8 w6 hag9 ⟨v4, hs13, HI10⟩
  replace H := H m5 v4 w6 HI10
  refine c_seq ?_
  intro K14 hK14
  refine c_seq ?_
  intro K15 hK15
  refine c_region ?_
  refine L_val (v := .int .i64 v4) (y_move (ev_tv rfl hs13)) ?_
  refine L_val (v := .int .i64 a_n1) (y_move (ev_tv rfl ((hag9 0 rfl).trans rfl))) ?_
  refine L_val (v := .bool (decide ((v4 : Int) < a_n1))) (y_lss (ev_tv rfl rfl) (ev_tv rfl rfl)) ?_
  refine l_nil ?_
  refine then_norm ?_
  refine hK15 _ _ ?_
  clear hK15
  rcases (Decidable.em ((v4 : Int) < a_n1)) with hb16 | hb16
  · replace H := H.1 hb16
    have hq17 : Value.bool (decide ((v4 : Int) < a_n1)) = Value.bool true := congrArg Value.bool (decide_eq_true hb16)
    refine cond_t (ev_tv rfl hq17) ?_
    refine c_skip ?_
    refine then_norm ?_
    refine hK14 _ _ ?_
    clear hK14
    refine c_seq ?_
    intro K18 hK18
    refine c_block ?_
    refine D_start Tryd.mixed rfl [5, 6, 7, 10] ?_
    refine start_keep fun hS => ?_
    refine D_pure (i := 0) (v := .pointer (some ⟨b2, 0, none⟩)) rfl (by kernel_rfl) (W_none rfl) (fun _ => y_move (ev_tv rfl ((hag9 3 rfl).trans rfl))) hS ?_
    intro hS
    refine D_pure (i := 1) (v := .pointer (some ⟨b2, 0, none⟩)) rfl (by kernel_rfl) (W_none rfl) (fun _ => y_move (ev_tv rfl ((hag9 3 rfl).trans rfl))) hS ?_
    intro hS
    refine D_pure (i := 2) (v := .pointer (some ⟨b2, 0, none⟩)) rfl (by kernel_rfl) (W_none rfl) (fun _ => y_nilCheck (ev_tv rfl rfl)) hS ?_
    intro hS
    refine D_pure (i := 3) (v := .pointer (some ⟨b2, 0, none⟩)) rfl (by kernel_rfl) (W_none rfl) (fun _ => Tryd.fa91_0 (ev_tv rfl rfl)) hS ?_
    intro hS
    obtain ⟨x7, x7l, x7c, hc19, H⟩ := H
    refine D_read (i := 4) (v := .slice x7 x7l x7c) rfl (by kernel_rfl) (W_none rfl) (fun wx => World.cell? wx ⟨b2, 0, none⟩ = some (.slice x7 x7l x7c)) hc19 (fun _ hcx => y_load Tryd.underlying89 rfl (ev_tv rfl rfl) hcx) hS ?_
    intro hS
    refine D_only (i := 5) (by kernel_rfl) rfl ?_
    obtain ⟨x9, x9l, x9c, w8, hc20, H⟩ := H
    refine O_val (i := 5) (v := .slice x9 x9l x9c) rfl (W_none rfl) (y_makeSlice ev_c ev_c hc20) ?_
    obtain ⟨hs30, H⟩ := H
    refine and_keep (SS_on hs30 SS_nil) fun hS => ?_
    refine D_only (i := 6) (by kernel_rfl) rfl ?_
    obtain ⟨b10, hb21⟩ : ∃ b10 : Nat, b10 = World.heapSize w8 := ⟨_, rfl⟩
    obtain ⟨w11, hw22⟩ : ∃ w11 : World, w11 = World.alloc w8 (.cells #[.slice x9 x9l x9c] 71) := ⟨_, rfl⟩
    replace H := H b10 w11 hb21 hw22
    refine O_val (i := 6) (v := .slice (some ⟨b10, 0, none⟩) 1 1) rfl (W_none rfl) (y_buildSlice (parts_ev1 (ev_tv rfl rfl)) hb21 hw22 (by kernel_rfl)) ?_
    obtain ⟨hs29, H⟩ := H
    refine and_keep (SS_on hs29 SS_nil) fun hS => ?_
    refine D_only (i := 7) (by kernel_rfl) rfl ?_
    obtain ⟨x13, x13l, x13c, w12, hc23, H⟩ := H
    refine O_val (i := 7) (v := .slice x13 x13l x13c) rfl (W_none rfl) (y_bi_append (map_ev2 (ev_tv rfl rfl) (ev_tv rfl rfl)) hc23) ?_
    refine and_keep (SS_off (by kernel_rfl) SS_nil) fun hS => ?_
    refine D_pure (i := 8) (v := .pointer (some ⟨b2, 0, none⟩)) rfl (by kernel_rfl) (W_none rfl) (fun _ => y_nilCheck (ev_tv rfl rfl)) hS ?_
    intro hS
    refine D_pure (i := 9) (v := .pointer (some ⟨b2, 0, none⟩)) rfl (by kernel_rfl) (W_none rfl) (fun _ => Tryd.fa91_0 (ev_tv rfl rfl)) hS ?_
    intro hS
    refine D_only (i := 10) (by kernel_rfl) rfl ?_
    obtain ⟨hc24, hf25, H⟩ := H
    obtain ⟨w14, hw26⟩ : ∃ w14 : World, w14 = World.setCell w12 ⟨b2, 0, none⟩ (.slice x13 x13l x13c) := ⟨_, rfl⟩
    replace H := H w14 hw26
    refine O_skip (i := 10) rfl (W_none rfl) (y_store Tryd.type89 rfl rfl (ev_tv rfl rfl) (ev_tv rfl rfl) hc24 hf25 hw26) ?_
    refine and_keep (SS_off (by kernel_rfl) SS_nil) fun hS => ?_
    refine D_done (by kernel_rfl) ?_
    refine block_norm ?_
    refine then_norm ?_
    refine hK18 _ _ ?_
    clear hK18
    refine c_region ?_
    refine L_val (v := .int .i64 v4) (y_move (ev_tv rfl hs13)) ?_
    obtain ⟨r15, hr27⟩ : ∃ r15 : Int, r15 = IntKind.wrap .i64 (v4 + 1) := ⟨_, rfl⟩
    replace H := H r15 hr27
    refine L_val (v := .int .i64 r15) (y_add (ev_tv rfl rfl) ev_c hr27) ?_
    refine L_val (v := .int .i64 r15) (y_assign (ev_tv rfl rfl)) ?_
    refine l_nil ?_
    refine then_norm ?_
    obtain ⟨m16, hm28, H⟩ := H
    exact ⟨_, rfl, (by repeat (first | exact agree_refl | exact hag9 | refine agree_upd rfl ?_ | refine agree_via hag9 rfl ?_)), m16, hm28, _, rfl, H⟩
  · replace H := H.2 hb16
    have hq17 : Value.bool (decide ((v4 : Int) < a_n1)) = Value.bool false := congrArg Value.bool (decide_eq_false hb16)
    refine cond_f (ev_tv rfl hq17) ?_
    refine c_exit ?_
    refine then_exit ?_
    refine then_exit ?_
    refine block_hit ?_
    refine then_norm ?_
    refine hK5 _ _ ?_
    clear hK5
    refine c_seq ?_
    intro K31 hK31
    refine c_region ?_
    refine L_val (v := .pointer (some ⟨b2, 0, none⟩)) (y_move (ev_tv rfl ((hag9 3 rfl).trans rfl))) ?_
    refine L_val (v := .pointer (some ⟨b2, 0, none⟩)) (y_assign (ev_tv rfl rfl)) ?_
    refine l_nil ?_
    refine then_norm ?_
    refine hK31 _ _ ?_
    clear hK31
    refine c_ret ?_
    exact body_1 rfl (ev_tv rfl rfl) H

/-- (parapet/namec.Cache).Walk -/
def Vc29 (a_c1 : Option Addr) (a_s2 : Value) (a_l3 : Int) (a_l4 : Int) (a_l5 : Int) (a_path6 : ByteArray) (w : World) (R : Ending → World → Prop) : Prop :=
  (∀ (b7 : Nat) (w8 : World), b7 = World.heapSize w → w8 = World.alloc w (.cells #[.int .i64 a_l3, .int .i64 a_l4, .int .i64 a_l5] 64) → (Calls Tryd.prog 34 #[.pointer a_c1] w8 fun e w10 => ∃ x9 : Bool, e = .returned (.bool x9) ∧ (((x9 = true) → (Calls Tryd.prog 7 #[.string a_path6] w10 fun e w14 => ∃ x12 : Option Addr, ∃ x12l : Nat, ∃ x12c : Nat, ∃ x13 : Int, e = .returned (.tuple #[.slice x12 x12l x12c, .int .i64 x13]) ∧ (((¬ ((x13 : Int) = 0)) → R (.returned (.tuple #[.int .i64 0, .int .i64 x13])) w14) ∧ (((x13 : Int) = 0) → (∃ x16 : Int, ∃ x17 : Int, ∃ x18 : Int, CellsAt w14 ⟨b7, 0, none⟩ [.int .i64 x16, .int .i64 x17, .int .i64 x18] ∧ (Calls Tryd.prog 44 #[.pointer a_c1, a_s2, .agg #[.int .i64 x16, .int .i64 x17, .int .i64 x18], .slice x12 x12l x12c] w14 fun e w21 => ∃ x19 : Int, ∃ x20 : Int, e = .returned (.tuple #[.int .i64 x19, .int .i64 x20]) ∧ R (.returned (.tuple #[.int .i64 x19, .int .i64 x20])) w21)))))) ∧ ((x9 = false) → R (.returned (.tuple #[.int .i64 0, .int .i64 6])) w10))))

theorem vc29 {a_c1 : Option Addr} {a_s2 : Value} {a_l3 : Int} {a_l4 : Int} {a_l5 : Int} {a_path6 : ByteArray} {w : World} {R : Ending → World → Prop} (H : Vc29 a_c1 a_s2 a_l3 a_l4 a_l5 a_path6 w R) : Calls Tryd.prog 29 #[.pointer a_c1, a_s2, .agg #[.int .i64 a_l3, .int .i64 a_l4, .int .i64 a_l5], .string a_path6] w R := by
  unfold Vc29 at H
  refine calls_start [.pointer a_c1, a_s2, .agg #[.int .i64 a_l3, .int .i64 a_l4, .int .i64 a_l5], .string a_path6] Tryd.func29 rfl Tryd.ntmps29 rfl ?_
  refine c_seq ?_
  intro K1 hK1
  refine c_region ?_
  obtain ⟨b7, hb2⟩ : ∃ b7 : Nat, b7 = World.heapSize w := ⟨_, rfl⟩
  obtain ⟨w8, hw3⟩ : ∃ w8 : World, w8 = World.alloc w (.cells #[.int .i64 a_l3, .int .i64 a_l4, .int .i64 a_l5] 64) := ⟨_, rfl⟩
  replace H := H b7 w8 hb2 hw3
  refine L_val (v := .pointer (some ⟨b7, 0, none⟩)) (y_box (ev_tv rfl rfl) rfl hb2 hw3) ?_
  refine L_val (v := .int .i64 0) (y_assign ev_c) ?_
  refine L_val (v := .int .i64 0) (y_assign ev_c) ?_
  refine l_nil ?_
  refine then_norm ?_
  refine hK1 _ _ ?_
  clear hK1
  refine c_seq ?_
  intro K4 hK4
  refine c_seq ?_
  intro K5 hK5
  refine c_region ?_
  refine L_val (v := .pointer a_c1) (y_move (ev_tv rfl rfl)) ?_
  refine L_call (y_call Tryd.call34 (map_ev1 (ev_tv rfl rfl)) ev_f) (Calls.mono H ?_)
  clear H
  rintro _ w10 ⟨x9, rfl, H⟩
  refine ⟨_, rfl, ?_⟩
  rcases Bool.eq_false_or_eq_true x9 with hb6 | hb6
  · replace H := H.1 hb6
    have hq7 : Value.bool (x9) = Value.bool true := congrArg Value.bool hb6
    refine L_val (v := .bool false) (y_not_t (ev_tv rfl hq7)) ?_
    refine l_nil ?_
    refine then_norm ?_
    refine hK5 _ _ ?_
    clear hK5
    refine cond_f (ev_tv rfl rfl) ?_
    refine c_skip ?_
    refine then_norm ?_
    refine hK4 _ _ ?_
    clear hK4
    refine c_seq ?_
    intro K8 hK8
    refine c_region ?_
    refine L_val (v := .string a_path6) (y_move (ev_tv rfl rfl)) ?_
    refine L_call (y_call Tryd.call7 (map_ev1 (ev_tv rfl rfl)) ev_f) (Calls.mono H ?_)
    clear H
    rintro _ w14 ⟨x12, x12l, x12c, x13, rfl, H⟩
    refine ⟨_, rfl, ?_⟩
    refine L_val (v := .tuple #[.slice x12 x12l x12c, .int .i64 x13]) (y_move (ev_tv rfl rfl)) ?_
    refine L_val (v := .slice x12 x12l x12c) (y_extract (ev_tv rfl rfl) rfl) ?_
    refine L_val (v := .int .i64 x13) (y_extract (ev_tv rfl rfl) rfl) ?_
    refine L_val (v := .slice x12 x12l x12c) (y_assign (ev_tv rfl rfl)) ?_
    refine L_val (v := .int .i64 x13) (y_assign (ev_tv rfl rfl)) ?_
    refine l_nil ?_
    refine then_norm ?_
    refine hK8 _ _ ?_
    clear hK8
    refine c_seq ?_
    intro K9 hK9
    refine c_seq ?_
    intro K10 hK10
    refine c_region ?_
    refine L_val (v := .int .i64 x13) (y_move (ev_tv rfl rfl)) ?_
    refine L_val (v := .bool (!decide ((x13 : Int) = 0))) (y_ine (ev_tv rfl rfl) ev_c) ?_
    refine l_nil ?_
    refine then_norm ?_
    refine hK10 _ _ ?_
    clear hK10
    rcases (Decidable.em ((x13 : Int) = 0)).symm with hb11 | hb11
    · replace H := H.1 hb11
      have hq12 : Value.bool (!decide ((x13 : Int) = 0)) = Value.bool true := congrArg Value.bool (ndec_t hb11)
      refine cond_t (ev_tv rfl hq12) ?_
      refine c_seq ?_
      intro K13 hK13
      refine c_region ?_
      refine L_val (v := .int .i64 x13) (y_move (ev_tv rfl rfl)) ?_
      refine L_val (v := .int .i64 0) (y_assign ev_c) ?_
      refine L_val (v := .int .i64 x13) (y_assign (ev_tv rfl rfl)) ?_
      refine l_nil ?_
      refine then_norm ?_
      refine hK13 _ _ ?_
      clear hK13
      refine c_ret ?_
      refine then_ret ?_
      exact body_2 rfl (ev_tv rfl rfl) (ev_tv rfl rfl) H
    · replace H := H.2 hb11
      have hq12 : Value.bool (!decide ((x13 : Int) = 0)) = Value.bool false := congrArg Value.bool (ndec_f hb11)
      refine cond_f (ev_tv rfl hq12) ?_
      refine c_skip ?_
      refine then_norm ?_
      refine hK9 _ _ ?_
      clear hK9
      refine c_seq ?_
      intro K14 hK14
      refine c_region ?_
      refine L_val (v := .pointer a_c1) (y_move (ev_tv rfl rfl)) ?_
      refine L_val (v := a_s2) (y_move (ev_tv rfl rfl)) ?_
      obtain ⟨x16, x17, x18, hc15, H⟩ := H
      refine L_val (v := .agg #[.int .i64 x16, .int .i64 x17, .int .i64 x18]) (y_loadAgg Tryd.underlying64 rfl Tryd.type64 rfl (ev_tv rfl rfl) hc15) ?_
      refine L_val (v := .slice x12 x12l x12c) (y_move (ev_tv rfl rfl)) ?_
      refine L_call (y_call Tryd.call44 (map_ev4 (ev_tv rfl rfl) (ev_tv rfl rfl) (ev_tv rfl rfl) (ev_tv rfl rfl)) ev_f) (Calls.mono H ?_)
      clear H
      rintro _ w21 ⟨x19, x20, rfl, H⟩
      refine ⟨_, rfl, ?_⟩
      refine L_val (v := .int .i64 x19) (y_extract (ev_tv rfl rfl) rfl) ?_
      refine L_val (v := .int .i64 x20) (y_extract (ev_tv rfl rfl) rfl) ?_
      refine L_val (v := .int .i64 x19) (y_assign (ev_tv rfl rfl)) ?_
      refine L_val (v := .int .i64 x20) (y_assign (ev_tv rfl rfl)) ?_
      refine l_nil ?_
      refine then_norm ?_
      refine hK14 _ _ ?_
      clear hK14
      refine c_ret ?_
      exact body_2 rfl (ev_tv rfl rfl) (ev_tv rfl rfl) H
  · replace H := H.2 hb6
    have hq7 : Value.bool (x9) = Value.bool false := congrArg Value.bool hb6
    refine L_val (v := .bool true) (y_not_f (ev_tv rfl hq7)) ?_
    refine l_nil ?_
    refine then_norm ?_
    refine hK5 _ _ ?_
    clear hK5
    refine cond_t (ev_tv rfl rfl) ?_
    refine c_seq ?_
    intro K16 hK16
    refine c_region ?_
    refine L_val (v := .int .i64 0) (y_assign ev_c) ?_
    refine L_val (v := .int .i64 6) (y_assign ev_c) ?_
    refine l_nil ?_
    refine then_norm ?_
    refine hK16 _ _ ?_
    clear hK16
    refine c_ret ?_
    refine then_ret ?_
    exact body_2 rfl (ev_tv rfl rfl) (ev_tv rfl rfl) H

/-- parapet/parapetlaw19.layout -/
def Vc30  (w : World) (R : Ending → World → Prop) : Prop :=
  (∀ (b1 : Nat) (w2 : World), b1 = World.heapSize w → w2 = World.alloc w (.cells #[.int .i64 0, .int .i64 0, .int .i64 0] 64) → ((∀ j, j < 3 → (World.cell? w2 (Addr.add ⟨b1, 0, none⟩ j)).isSome = true ∧ World.frozen? w2 (Addr.add ⟨b1, 0, none⟩ j) = false) ∧ ∀ w3 : World, w3 = putCells w2 ⟨b1, 0, none⟩ [.int .i64 64, .int .i64 8, .int .i64 24] 0 → (∃ x4 : Int, ∃ x5 : Int, ∃ x6 : Int, CellsAt w3 ⟨b1, 0, none⟩ [.int .i64 x4, .int .i64 x5, .int .i64 x6] ∧ R (.returned (.agg #[.int .i64 x4, .int .i64 x5, .int .i64 x6])) w3)))

theorem vc30  {w : World} {R : Ending → World → Prop} (H : Vc30  w R) : Calls Tryd.prog 30 #[] w R := by
  unfold Vc30 at H
  refine calls_start [] Tryd.func30 rfl Tryd.ntmps30 rfl ?_
  refine c_seq ?_
  intro K1 hK1
  refine c_region ?_
  obtain ⟨b1, hb2⟩ : ∃ b1 : Nat, b1 = World.heapSize w := ⟨_, rfl⟩
  obtain ⟨w2, hw3⟩ : ∃ w2 : World, w2 = World.alloc w (.cells #[.int .i64 0, .int .i64 0, .int .i64 0] 64) := ⟨_, rfl⟩
  replace H := H b1 w2 hb2 hw3
  refine L_val (v := .pointer (some ⟨b1, 0, none⟩)) (y_alloc Tryd.type64 rfl rfl hb2 hw3) ?_
  refine l_nil ?_
  refine then_norm ?_
  refine hK1 _ _ ?_
  clear hK1
  refine c_seq ?_
  intro K4 hK4
  refine c_region ?_
  refine L_val (v := .agg #[.int .i64 64, .int .i64 8, .int .i64 24]) (y_build (parts_ev3 ev_c ev_c ev_c) (by kernel_rfl)) ?_
  obtain ⟨hc5, H⟩ := H
  obtain ⟨w3, hw7⟩ : ∃ w3 : World, w3 = putCells w2 ⟨b1, 0, none⟩ [.int .i64 64, .int .i64 8, .int .i64 24] 0 := ⟨_, rfl⟩
  replace H := H w3 hw7
  refine L_skip (y_storeAgg Tryd.type64 rfl (by intro v hv; simp only [List.mem_cons, List.not_mem_nil, or_false] at hv; rcases hv with rfl | rfl | rfl <;> rfl) (ev_tv rfl rfl) (ev_tv rfl rfl) hc5 hw7) ?_
  refine l_nil ?_
  refine then_norm ?_
  refine hK4 _ _ ?_
  clear hK4
  refine c_ret ?_
  obtain ⟨x4, x5, x6, hc8, H⟩ := H
  exact body_cellAgg rfl Tryd.underlying64 rfl Tryd.type64 rfl (ev_tv rfl rfl) hc8 H

/-- (parapet/namec.Cache).Parent -/
def Vc31 (a_c1 : Option Addr) (a_s2 : Value) (a_l3 : Int) (a_l4 : Int) (a_l5 : Int) (a_path6 : ByteArray) (w : World) (R : Ending → World → Prop) : Prop :=
  (∀ (b7 : Nat) (w8 : World), b7 = World.heapSize w → w8 = World.alloc w (.cells #[.int .i64 a_l3, .int .i64 a_l4, .int .i64 a_l5] 64) → (Calls Tryd.prog 34 #[.pointer a_c1] w8 fun e w10 => ∃ x9 : Bool, e = .returned (.bool x9) ∧ (((x9 = true) → (Calls Tryd.prog 7 #[.string a_path6] w10 fun e w14 => ∃ x12 : Option Addr, ∃ x12l : Nat, ∃ x12c : Nat, ∃ x13 : Int, e = .returned (.tuple #[.slice x12 x12l x12c, .int .i64 x13]) ∧ (((¬ ((x13 : Int) = 0)) → R (.returned (.tuple #[.int .i64 0, .string (⟨#[]⟩ : ByteArray), .int .i64 190])) w14) ∧ (((x13 : Int) = 0) → ((((((x12l : Nat) : Int) : Int) = 0) → R (.returned (.tuple #[.int .i64 0, .string (⟨#[]⟩ : ByteArray), .int .i64 190])) w14) ∧ ((¬ ((((x12l : Nat) : Int) : Int) = 0)) → (∀ r16 : Int, r16 = IntKind.wrap .i64 (((x12l : Nat) : Int) - 1) → ((0 : Int) ≤ r16 ∧ r16 ≤ ((x12c : Nat) : Int) ∧ ∀ a17 : Option Addr, a17 = x12 → (∃ x18 : Int, ∃ x19 : Int, ∃ x20 : Int, CellsAt (w14.drew) ⟨b7, 0, none⟩ [.int .i64 x18, .int .i64 x19, .int .i64 x20] ∧ (Calls Tryd.prog 44 #[.pointer a_c1, a_s2, .agg #[.int .i64 x18, .int .i64 x19, .int .i64 x20], .slice a17 ((r16 : Int).toNat) x12c] (w14.drew) fun e w23 => ∃ x21 : Int, ∃ x22 : Int, e = .returned (.tuple #[.int .i64 x21, .int .i64 x22]) ∧ (((¬ ((x22 : Int) = 0)) → R (.returned (.tuple #[.int .i64 0, .string (⟨#[]⟩ : ByteArray), .int .i64 x22])) w23) ∧ (((x22 : Int) = 0) → (∃ x24 : Int, ∃ x25 : Int, ∃ x26 : Int, CellsAt w23 ⟨b7, 0, none⟩ [.int .i64 x24, .int .i64 x25, .int .i64 x26] ∧ (Calls Tryd.prog 45 #[a_s2, .agg #[.int .i64 x24, .int .i64 x25, .int .i64 x26], .int .i64 x21] w23 fun e w44 => ∃ x27 : Int, ∃ x28 : Int, ∃ x29 : Int, ∃ x30 : Int, ∃ x31 : Int, ∃ x32 : Int, ∃ x33 : Int, ∃ x34 : Int, ∃ x35 : Int, ∃ x36 : Int, ∃ x37 : Int, ∃ x38 : Int, ∃ x39 : Int, ∃ x40 : Int, ∃ x41 : Int, ∃ x42 : Int, ∃ x43 : Int, e = .returned (.tuple #[.agg #[.int .i64 x27, .int .i64 x28, .int .i64 x29, .int .i64 x30, .int .i64 x31, .int .i64 x32, .int .i64 x33, .int .i64 x34, .int .i64 x35, .int .i64 x36, .int .i64 x37, .int .i64 x38, .int .i64 x39, .int .i64 x40, .int .i64 x41, .int .i64 x42], .int .i64 x43]) ∧ (∀ (b46 : Nat) (w47 : World), b46 = World.heapSize w44 → w47 = World.alloc w44 (.cells #[.int .i64 0, .int .i64 0, .int .i64 0, .int .i64 0, .int .i64 0, .int .i64 0, .int .i64 0, .int .i64 0, .int .i64 0, .int .i64 0, .int .i64 0, .int .i64 0, .int .i64 0, .int .i64 0, .int .i64 0, .int .i64 0] 97) → ((∀ j, j < 16 → (World.cell? w47 (Addr.add ⟨b46, 0, none⟩ j)).isSome = true ∧ World.frozen? w47 (Addr.add ⟨b46, 0, none⟩ j) = false) ∧ ∀ w48 : World, w48 = putCells w47 ⟨b46, 0, none⟩ [.int .i64 x27, .int .i64 x28, .int .i64 x29, .int .i64 x30, .int .i64 x31, .int .i64 x32, .int .i64 x33, .int .i64 x34, .int .i64 x35, .int .i64 x36, .int .i64 x37, .int .i64 x38, .int .i64 x39, .int .i64 x40, .int .i64 x41, .int .i64 x42] 0 → (((¬ ((x43 : Int) = 0)) → R (.returned (.tuple #[.int .i64 0, .string (⟨#[]⟩ : ByteArray), .int .i64 x43])) w48) ∧ (((x43 : Int) = 0) → (∃ x49 : Int, World.cell? w48 ⟨b46, 0, none⟩ = some (.int .i64 x49) ∧ (((¬ ((x49 : Int) = 2)) → R (.returned (.tuple #[.int .i64 0, .string (⟨#[]⟩ : ByteArray), .int .i64 191])) w48) ∧ (((x49 : Int) = 2) → (∃ (b50 o51 : Nat), x12 = some ⟨b50, o51, none⟩ ∧ ((0 : Int) ≤ r16 ∧ r16 < ((x12l : Nat) : Int) ∧ (∃ x52 : ByteArray, World.cell? (w48.drew) ⟨b50, o51 + (r16 : Int).toNat, none⟩ = some (.string x52) ∧ R (.returned (.tuple #[.int .i64 x21, .string x52, .int .i64 0])) (w48.drew))))))))))))))))))))))))) ∧ ((x9 = false) → R (.returned (.tuple #[.int .i64 0, .string (⟨#[]⟩ : ByteArray), .int .i64 6])) w10))))

theorem vc31 {a_c1 : Option Addr} {a_s2 : Value} {a_l3 : Int} {a_l4 : Int} {a_l5 : Int} {a_path6 : ByteArray} {w : World} {R : Ending → World → Prop} (H : Vc31 a_c1 a_s2 a_l3 a_l4 a_l5 a_path6 w R) : Calls Tryd.prog 31 #[.pointer a_c1, a_s2, .agg #[.int .i64 a_l3, .int .i64 a_l4, .int .i64 a_l5], .string a_path6] w R := by
  unfold Vc31 at H
  refine calls_start [.pointer a_c1, a_s2, .agg #[.int .i64 a_l3, .int .i64 a_l4, .int .i64 a_l5], .string a_path6] Tryd.func31 rfl Tryd.ntmps31 rfl ?_
  refine c_seq ?_
  intro K1 hK1
  refine c_region ?_
  obtain ⟨b7, hb2⟩ : ∃ b7 : Nat, b7 = World.heapSize w := ⟨_, rfl⟩
  obtain ⟨w8, hw3⟩ : ∃ w8 : World, w8 = World.alloc w (.cells #[.int .i64 a_l3, .int .i64 a_l4, .int .i64 a_l5] 64) := ⟨_, rfl⟩
  replace H := H b7 w8 hb2 hw3
  refine L_val (v := .pointer (some ⟨b7, 0, none⟩)) (y_box (ev_tv rfl rfl) rfl hb2 hw3) ?_
  refine L_val (v := .int .i64 0) (y_assign ev_c) ?_
  refine L_val (v := .string (⟨#[]⟩ : ByteArray)) (y_assign ev_c) ?_
  refine L_val (v := .int .i64 0) (y_assign ev_c) ?_
  refine l_nil ?_
  refine then_norm ?_
  refine hK1 _ _ ?_
  clear hK1
  refine c_seq ?_
  intro K4 hK4
  refine c_seq ?_
  intro K5 hK5
  refine c_region ?_
  refine L_val (v := .pointer a_c1) (y_move (ev_tv rfl rfl)) ?_
  refine L_call (y_call Tryd.call34 (map_ev1 (ev_tv rfl rfl)) ev_f) (Calls.mono H ?_)
  clear H
  rintro _ w10 ⟨x9, rfl, H⟩
  refine ⟨_, rfl, ?_⟩
  rcases Bool.eq_false_or_eq_true x9 with hb6 | hb6
  · replace H := H.1 hb6
    have hq7 : Value.bool (x9) = Value.bool true := congrArg Value.bool hb6
    refine L_val (v := .bool false) (y_not_t (ev_tv rfl hq7)) ?_
    refine l_nil ?_
    refine then_norm ?_
    refine hK5 _ _ ?_
    clear hK5
    refine cond_f (ev_tv rfl rfl) ?_
    refine c_skip ?_
    refine then_norm ?_
    refine hK4 _ _ ?_
    clear hK4
    refine c_seq ?_
    intro K8 hK8
    refine c_region ?_
    refine L_val (v := .string a_path6) (y_move (ev_tv rfl rfl)) ?_
    refine L_call (y_call Tryd.call7 (map_ev1 (ev_tv rfl rfl)) ev_f) (Calls.mono H ?_)
    clear H
    rintro _ w14 ⟨x12, x12l, x12c, x13, rfl, H⟩
    refine ⟨_, rfl, ?_⟩
    refine L_val (v := .tuple #[.slice x12 x12l x12c, .int .i64 x13]) (y_move (ev_tv rfl rfl)) ?_
    refine L_val (v := .slice x12 x12l x12c) (y_extract (ev_tv rfl rfl) rfl) ?_
    refine L_val (v := .int .i64 x13) (y_extract (ev_tv rfl rfl) rfl) ?_
    refine L_val (v := .slice x12 x12l x12c) (y_assign (ev_tv rfl rfl)) ?_
    refine L_val (v := .int .i64 x13) (y_assign (ev_tv rfl rfl)) ?_
    refine l_nil ?_
    refine then_norm ?_
    refine hK8 _ _ ?_
    clear hK8
    refine c_seq ?_
    intro K9 hK9
    refine c_seq ?_
    intro K10 hK10
    refine c_region ?_
    refine L_val (v := .int .i64 x13) (y_move (ev_tv rfl rfl)) ?_
    refine L_val (v := .bool (!decide ((x13 : Int) = 0))) (y_ine (ev_tv rfl rfl) ev_c) ?_
    refine L_val (v := .bool (!decide ((x13 : Int) = 0))) (y_move (ev_tv rfl rfl)) ?_
    rcases (Decidable.em ((x13 : Int) = 0)).symm with hb11 | hb11
    · replace H := H.1 hb11
      have hq12 : Value.bool (!decide ((x13 : Int) = 0)) = Value.bool true := congrArg Value.bool (ndec_t hb11)
      refine G_not (b' := true) (dj := 26) rfl rfl hq12 rfl ?_
      refine G_not (b' := true) (dj := 26) rfl rfl hq12 rfl ?_
      refine G_not (b' := true) (dj := 26) rfl rfl hq12 rfl ?_
      refine L_val (v := .bool true) (y_pick_t (ev_tv rfl hq12) ev_c) ?_
      refine l_nil ?_
      refine then_norm ?_
      refine hK10 _ _ ?_
      clear hK10
      refine cond_t (ev_tv rfl rfl) ?_
      refine c_seq ?_
      intro K13 hK13
      refine c_region ?_
      refine L_val (v := .int .i64 0) (y_assign ev_c) ?_
      refine L_val (v := .string (⟨#[]⟩ : ByteArray)) (y_assign ev_c) ?_
      refine L_val (v := .int .i64 190) (y_assign ev_c) ?_
      refine l_nil ?_
      refine then_norm ?_
      refine hK13 _ _ ?_
      clear hK13
      refine c_ret ?_
      refine then_ret ?_
      exact body_3 rfl (ev_tv rfl rfl) (ev_tv rfl rfl) (ev_tv rfl rfl) H
    · replace H := H.2 hb11
      have hq12 : Value.bool (!decide ((x13 : Int) = 0)) = Value.bool false := congrArg Value.bool (ndec_f hb11)
      refine G_val (dj := 26) rfl rfl hq12 (v := .slice x12 x12l x12c) (y_move (ev_tv rfl rfl)) ?_
      refine G_val (dj := 26) rfl rfl hq12 (v := .int .i64 ((x12l : Nat) : Int)) (y_len Tryd.underlying22 rfl (map_ev1 (ev_tv rfl rfl))) ?_
      refine G_val (dj := 26) rfl rfl hq12 (v := .bool (decide ((((x12l : Nat) : Int) : Int) = 0))) (y_ieq (ev_tv rfl rfl) ev_c) ?_
      refine L_val (v := .bool (decide ((((x12l : Nat) : Int) : Int) = 0))) (y_pick_f (ev_tv rfl hq12) (ev_tv rfl rfl)) ?_
      refine l_nil ?_
      refine then_norm ?_
      refine hK10 _ _ ?_
      clear hK10
      rcases (Decidable.em ((((x12l : Nat) : Int) : Int) = 0)) with hb14 | hb14
      · replace H := H.1 hb14
        have hq15 : Value.bool (decide ((((x12l : Nat) : Int) : Int) = 0)) = Value.bool true := congrArg Value.bool (decide_eq_true hb14)
        refine cond_t (ev_tv rfl hq15) ?_
        refine c_seq ?_
        intro K16 hK16
        refine c_region ?_
        refine L_val (v := .int .i64 0) (y_assign ev_c) ?_
        refine L_val (v := .string (⟨#[]⟩ : ByteArray)) (y_assign ev_c) ?_
        refine L_val (v := .int .i64 190) (y_assign ev_c) ?_
        refine l_nil ?_
        refine then_norm ?_
        refine hK16 _ _ ?_
        clear hK16
        refine c_ret ?_
        refine then_ret ?_
        exact body_3 rfl (ev_tv rfl rfl) (ev_tv rfl rfl) (ev_tv rfl rfl) H
      · replace H := H.2 hb14
        have hq15 : Value.bool (decide ((((x12l : Nat) : Int) : Int) = 0)) = Value.bool false := congrArg Value.bool (decide_eq_false hb14)
        refine cond_f (ev_tv rfl hq15) ?_
        refine c_skip ?_
        refine then_norm ?_
        refine hK9 _ _ ?_
        clear hK9
        refine c_seq ?_
        intro K17 hK17
        refine c_region ?_
        refine L_val (v := .slice x12 x12l x12c) (y_move (ev_tv rfl rfl)) ?_
        refine L_val (v := .int .i64 ((x12l : Nat) : Int)) (y_len Tryd.underlying22 rfl (map_ev1 (ev_tv rfl rfl))) ?_
        obtain ⟨r16, hr18⟩ : ∃ r16 : Int, r16 = IntKind.wrap .i64 (((x12l : Nat) : Int) - 1) := ⟨_, rfl⟩
        replace H := H r16 hr18
        refine L_val (v := .int .i64 r16) (y_sub (ev_tv rfl rfl) ev_c hr18) ?_
        refine L_val (v := .int .i64 r16) (y_assign (ev_tv rfl rfl)) ?_
        refine l_nil ?_
        refine then_norm ?_
        refine hK17 _ _ ?_
        clear hK17
        refine c_seq ?_
        intro K19 hK19
        refine D_start Tryd.mixed rfl [6] ?_
        refine start_keep fun hS => ?_
        refine D_pure (i := 0) (v := .pointer a_c1) rfl (by kernel_rfl) (W_none rfl) (fun _ => y_move (ev_tv rfl rfl)) hS ?_
        intro hS
        refine D_pure (i := 1) (v := a_s2) rfl (by kernel_rfl) (W_none rfl) (fun _ => y_move (ev_tv rfl rfl)) hS ?_
        intro hS
        refine D_pure (i := 3) (v := .slice x12 x12l x12c) rfl (by kernel_rfl) (W_none rfl) (fun _ => y_move (ev_tv rfl rfl)) hS ?_
        intro hS
        refine D_pure (i := 4) (v := .int .i64 r16) rfl (by kernel_rfl) (W_none rfl) (fun _ => y_move (ev_tv rfl rfl)) hS ?_
        intro hS
        obtain ⟨hi21, hi22, H⟩ := H
        obtain ⟨a17, ha20⟩ : ∃ a17 : Option Addr, a17 = x12 := ⟨_, rfl⟩
        replace H := H a17 ha20
        refine D_pure (i := 5) (v := .slice a17 ((r16 : Int).toNat) x12c) rfl (by kernel_rfl) (W_none rfl) (fun _ => y_sliceH Tryd.underlying22 Tryd.type9 (ev_tv rfl rfl) (ev_tv rfl rfl) hi21 hi22 ha20) hS ?_
        intro hS
        obtain ⟨x18, x19, x20, hc23, H⟩ := H
        refine D_read (i := 2) (v := .agg #[.int .i64 x18, .int .i64 x19, .int .i64 x20]) rfl (by kernel_rfl) (W_none rfl) (fun wx => CellsAt wx ⟨b7, 0, none⟩ [.int .i64 x18, .int .i64 x19, .int .i64 x20]) hc23 (fun _ hcx => y_loadAgg Tryd.underlying64 rfl Tryd.type64 rfl (ev_tv rfl rfl) hcx) hS ?_
        intro hS
        refine D_only (i := 6) (by kernel_rfl) rfl ?_
        refine O_call (i := 6) rfl (W_none rfl) (y_call Tryd.call44 (map_ev4 (ev_tv rfl rfl) (ev_tv rfl rfl) (ev_tv rfl rfl) (ev_tv rfl rfl)) ev_f) (Calls.mono H ?_)
        clear H
        rintro _ w23 ⟨x21, x22, rfl, H⟩
        refine ⟨_, rfl, ?_⟩
        refine and_keep (SS_off (by kernel_rfl) SS_nil) fun hS => ?_
        refine D_pure (i := 7) (v := .tuple #[.int .i64 x21, .int .i64 x22]) rfl (by kernel_rfl) (W_none rfl) (fun _ => y_move (ev_tv rfl rfl)) hS ?_
        intro hS
        refine D_pure (i := 8) (v := .int .i64 x21) rfl (by kernel_rfl) (W_none rfl) (fun _ => y_extract (ev_tv rfl rfl) rfl) hS ?_
        intro hS
        refine D_pure (i := 9) (v := .int .i64 x22) rfl (by kernel_rfl) (W_none rfl) (fun _ => y_extract (ev_tv rfl rfl) rfl) hS ?_
        intro hS
        refine D_pure (i := 10) (v := .int .i64 x21) rfl (by kernel_rfl) (W_none rfl) (fun _ => y_assign (ev_tv rfl rfl)) hS ?_
        intro hS
        refine D_pure (i := 11) (v := .int .i64 x22) rfl (by kernel_rfl) (W_none rfl) (fun _ => y_assign (ev_tv rfl rfl)) hS ?_
        intro hS
        refine D_done (by kernel_rfl) ?_
        refine then_norm ?_
        refine hK19 _ _ ?_
        clear hK19
        refine c_seq ?_
        intro K24 hK24
        refine c_seq ?_
        intro K25 hK25
        refine c_region ?_
        refine L_val (v := .int .i64 x22) (y_move (ev_tv rfl rfl)) ?_
        refine L_val (v := .bool (!decide ((x22 : Int) = 0))) (y_ine (ev_tv rfl rfl) ev_c) ?_
        refine l_nil ?_
        refine then_norm ?_
        refine hK25 _ _ ?_
        clear hK25
        rcases (Decidable.em ((x22 : Int) = 0)).symm with hb26 | hb26
        · replace H := H.1 hb26
          have hq27 : Value.bool (!decide ((x22 : Int) = 0)) = Value.bool true := congrArg Value.bool (ndec_t hb26)
          refine cond_t (ev_tv rfl hq27) ?_
          refine c_seq ?_
          intro K28 hK28
          refine c_region ?_
          refine L_val (v := .int .i64 x22) (y_move (ev_tv rfl rfl)) ?_
          refine L_val (v := .int .i64 0) (y_assign ev_c) ?_
          refine L_val (v := .string (⟨#[]⟩ : ByteArray)) (y_assign ev_c) ?_
          refine L_val (v := .int .i64 x22) (y_assign (ev_tv rfl rfl)) ?_
          refine l_nil ?_
          refine then_norm ?_
          refine hK28 _ _ ?_
          clear hK28
          refine c_ret ?_
          refine then_ret ?_
          exact body_3 rfl (ev_tv rfl rfl) (ev_tv rfl rfl) (ev_tv rfl rfl) H
        · replace H := H.2 hb26
          have hq27 : Value.bool (!decide ((x22 : Int) = 0)) = Value.bool false := congrArg Value.bool (ndec_f hb26)
          refine cond_f (ev_tv rfl hq27) ?_
          refine c_skip ?_
          refine then_norm ?_
          refine hK24 _ _ ?_
          clear hK24
          refine c_seq ?_
          intro K29 hK29
          refine c_region ?_
          refine L_val (v := a_s2) (y_move (ev_tv rfl rfl)) ?_
          obtain ⟨x24, x25, x26, hc30, H⟩ := H
          refine L_val (v := .agg #[.int .i64 x24, .int .i64 x25, .int .i64 x26]) (y_loadAgg Tryd.underlying64 rfl Tryd.type64 rfl (ev_tv rfl rfl) hc30) ?_
          refine L_val (v := .int .i64 x21) (y_move (ev_tv rfl rfl)) ?_
          refine L_call (y_call Tryd.call45 (map_ev3 (ev_tv rfl rfl) (ev_tv rfl rfl) (ev_tv rfl rfl)) ev_f) (Calls.mono H ?_)
          clear H
          rintro _ w44 ⟨x27, x28, x29, x30, x31, x32, x33, x34, x35, x36, x37, x38, x39, x40, x41, x42, x43, rfl, H⟩
          refine ⟨_, rfl, ?_⟩
          refine L_val (v := .tuple #[.agg #[.int .i64 x27, .int .i64 x28, .int .i64 x29, .int .i64 x30, .int .i64 x31, .int .i64 x32, .int .i64 x33, .int .i64 x34, .int .i64 x35, .int .i64 x36, .int .i64 x37, .int .i64 x38, .int .i64 x39, .int .i64 x40, .int .i64 x41, .int .i64 x42], .int .i64 x43]) (y_move (ev_tv rfl rfl)) ?_
          refine L_val (v := .agg #[.int .i64 x27, .int .i64 x28, .int .i64 x29, .int .i64 x30, .int .i64 x31, .int .i64 x32, .int .i64 x33, .int .i64 x34, .int .i64 x35, .int .i64 x36, .int .i64 x37, .int .i64 x38, .int .i64 x39, .int .i64 x40, .int .i64 x41, .int .i64 x42]) (y_extract (ev_tv rfl rfl) rfl) ?_
          refine L_val (v := .int .i64 x43) (y_extract (ev_tv rfl rfl) rfl) ?_
          obtain ⟨b46, hb31⟩ : ∃ b46 : Nat, b46 = World.heapSize w44 := ⟨_, rfl⟩
          obtain ⟨w47, hw32⟩ : ∃ w47 : World, w47 = World.alloc w44 (.cells #[.int .i64 0, .int .i64 0, .int .i64 0, .int .i64 0, .int .i64 0, .int .i64 0, .int .i64 0, .int .i64 0, .int .i64 0, .int .i64 0, .int .i64 0, .int .i64 0, .int .i64 0, .int .i64 0, .int .i64 0, .int .i64 0] 97) := ⟨_, rfl⟩
          replace H := H b46 w47 hb31 hw32
          refine L_val (v := .pointer (some ⟨b46, 0, none⟩)) (y_alloc Tryd.type97 rfl rfl hb31 hw32) ?_
          obtain ⟨hc33, H⟩ := H
          obtain ⟨w48, hw35⟩ : ∃ w48 : World, w48 = putCells w47 ⟨b46, 0, none⟩ [.int .i64 x27, .int .i64 x28, .int .i64 x29, .int .i64 x30, .int .i64 x31, .int .i64 x32, .int .i64 x33, .int .i64 x34, .int .i64 x35, .int .i64 x36, .int .i64 x37, .int .i64 x38, .int .i64 x39, .int .i64 x40, .int .i64 x41, .int .i64 x42] 0 := ⟨_, rfl⟩
          replace H := H w48 hw35
          refine L_skip (y_storeAgg Tryd.type97 rfl (by intro v hv; simp only [List.mem_cons, List.not_mem_nil, or_false] at hv; rcases hv with rfl | rfl | rfl | rfl | rfl | rfl | rfl | rfl | rfl | rfl | rfl | rfl | rfl | rfl | rfl | rfl <;> rfl) (ev_tv rfl rfl) (ev_tv rfl rfl) hc33 hw35) ?_
          refine L_val (v := .int .i64 x43) (y_assign (ev_tv rfl rfl)) ?_
          refine l_nil ?_
          refine then_norm ?_
          refine hK29 _ _ ?_
          clear hK29
          refine c_seq ?_
          intro K36 hK36
          refine c_seq ?_
          intro K37 hK37
          refine c_region ?_
          refine L_val (v := .int .i64 x43) (y_move (ev_tv rfl rfl)) ?_
          refine L_val (v := .bool (!decide ((x43 : Int) = 0))) (y_ine (ev_tv rfl rfl) ev_c) ?_
          refine l_nil ?_
          refine then_norm ?_
          refine hK37 _ _ ?_
          clear hK37
          rcases (Decidable.em ((x43 : Int) = 0)).symm with hb38 | hb38
          · replace H := H.1 hb38
            have hq39 : Value.bool (!decide ((x43 : Int) = 0)) = Value.bool true := congrArg Value.bool (ndec_t hb38)
            refine cond_t (ev_tv rfl hq39) ?_
            refine c_seq ?_
            intro K40 hK40
            refine c_region ?_
            refine L_val (v := .int .i64 x43) (y_move (ev_tv rfl rfl)) ?_
            refine L_val (v := .int .i64 0) (y_assign ev_c) ?_
            refine L_val (v := .string (⟨#[]⟩ : ByteArray)) (y_assign ev_c) ?_
            refine L_val (v := .int .i64 x43) (y_assign (ev_tv rfl rfl)) ?_
            refine l_nil ?_
            refine then_norm ?_
            refine hK40 _ _ ?_
            clear hK40
            refine c_ret ?_
            refine then_ret ?_
            exact body_3 rfl (ev_tv rfl rfl) (ev_tv rfl rfl) (ev_tv rfl rfl) H
          · replace H := H.2 hb38
            have hq39 : Value.bool (!decide ((x43 : Int) = 0)) = Value.bool false := congrArg Value.bool (ndec_f hb38)
            refine cond_f (ev_tv rfl hq39) ?_
            refine c_skip ?_
            refine then_norm ?_
            refine hK36 _ _ ?_
            clear hK36
            refine c_seq ?_
            intro K41 hK41
            refine c_seq ?_
            intro K42 hK42
            refine c_region ?_
            refine L_val (v := .pointer (some ⟨b46, 0, none⟩)) (Tryd.fa97_0 (ev_tv rfl rfl)) ?_
            obtain ⟨x49, hc43, H⟩ := H
            refine L_val (v := .int .i64 x49) (y_load Tryd.underlying3 rfl (ev_tv rfl rfl) hc43) ?_
            refine L_val (v := .bool (!decide ((x49 : Int) = 2))) (y_ine (ev_tv rfl rfl) ev_c) ?_
            refine l_nil ?_
            refine then_norm ?_
            refine hK42 _ _ ?_
            clear hK42
            rcases (Decidable.em ((x49 : Int) = 2)).symm with hb44 | hb44
            · replace H := H.1 hb44
              have hq45 : Value.bool (!decide ((x49 : Int) = 2)) = Value.bool true := congrArg Value.bool (ndec_t hb44)
              refine cond_t (ev_tv rfl hq45) ?_
              refine c_seq ?_
              intro K46 hK46
              refine c_region ?_
              refine L_val (v := .int .i64 0) (y_assign ev_c) ?_
              refine L_val (v := .string (⟨#[]⟩ : ByteArray)) (y_assign ev_c) ?_
              refine L_val (v := .int .i64 191) (y_assign ev_c) ?_
              refine l_nil ?_
              refine then_norm ?_
              refine hK46 _ _ ?_
              clear hK46
              refine c_ret ?_
              refine then_ret ?_
              exact body_3 rfl (ev_tv rfl rfl) (ev_tv rfl rfl) (ev_tv rfl rfl) H
            · replace H := H.2 hb44
              have hq45 : Value.bool (!decide ((x49 : Int) = 2)) = Value.bool false := congrArg Value.bool (ndec_f hb44)
              refine cond_f (ev_tv rfl hq45) ?_
              refine c_skip ?_
              refine then_norm ?_
              refine hK41 _ _ ?_
              clear hK41
              refine c_seq ?_
              intro K47 hK47
              refine D_start Tryd.mixed rfl [] ?_
              refine start_keep fun hS => ?_
              refine D_pure (i := 0) (v := .int .i64 x21) rfl (by kernel_rfl) (W_none rfl) (fun _ => y_move (ev_tv rfl rfl)) hS ?_
              intro hS
              refine D_pure (i := 1) (v := .slice x12 x12l x12c) rfl (by kernel_rfl) (W_none rfl) (fun _ => y_move (ev_tv rfl rfl)) hS ?_
              intro hS
              refine D_pure (i := 2) (v := .int .i64 r16) rfl (by kernel_rfl) (W_none rfl) (fun _ => y_move (ev_tv rfl rfl)) hS ?_
              intro hS
              obtain ⟨b50, o51, rfl, H⟩ := H
              obtain ⟨hi48, hi49, H⟩ := H
              refine D_pure (i := 3) (v := .pointer (some ⟨b50, o51 + (r16 : Int).toNat, none⟩)) rfl (by kernel_rfl) (W_none rfl) (fun _ => y_ix1 Tryd.underlying22 Tryd.type9 rfl (ev_tv rfl rfl) (ev_tv rfl rfl) hi48 hi49) hS ?_
              intro hS
              refine D_pure (i := 5) (v := .int .i64 x21) rfl (by kernel_rfl) (W_none rfl) (fun _ => y_assign (ev_tv rfl rfl)) hS ?_
              intro hS
              obtain ⟨x52, hc50, H⟩ := H
              refine D_read (i := 4) (v := .string x52) rfl (by kernel_rfl) (W_none rfl) (fun wx => World.cell? wx ⟨b50, o51 + (r16 : Int).toNat, none⟩ = some (.string x52)) hc50 (fun _ hcx => y_load Tryd.underlying9 rfl (ev_tv rfl rfl) hcx) hS ?_
              intro hS
              refine D_pure (i := 6) (v := .string x52) rfl (by kernel_rfl) (W_none rfl) (fun _ => y_assign (ev_tv rfl rfl)) hS ?_
              intro hS
              refine D_pure (i := 7) (v := .int .i64 0) rfl (by kernel_rfl) (W_none rfl) (fun _ => y_assign ev_c) hS ?_
              intro hS
              refine D_done (by kernel_rfl) ?_
              refine then_norm ?_
              refine hK47 _ _ ?_
              clear hK47
              refine c_ret ?_
              exact body_3 rfl (ev_tv rfl rfl) (ev_tv rfl rfl) (ev_tv rfl rfl) H
  · replace H := H.2 hb6
    have hq7 : Value.bool (x9) = Value.bool false := congrArg Value.bool hb6
    refine L_val (v := .bool true) (y_not_f (ev_tv rfl hq7)) ?_
    refine l_nil ?_
    refine then_norm ?_
    refine hK5 _ _ ?_
    clear hK5
    refine cond_t (ev_tv rfl rfl) ?_
    refine c_seq ?_
    intro K51 hK51
    refine c_region ?_
    refine L_val (v := .int .i64 0) (y_assign ev_c) ?_
    refine L_val (v := .string (⟨#[]⟩ : ByteArray)) (y_assign ev_c) ?_
    refine L_val (v := .int .i64 6) (y_assign ev_c) ?_
    refine l_nil ?_
    refine then_norm ?_
    refine hK51 _ _ ?_
    clear hK51
    refine c_ret ?_
    refine then_ret ?_
    exact body_3 rfl (ev_tv rfl rfl) (ev_tv rfl rfl) (ev_tv rfl rfl) H

/-- (parapet/namec.Cache).made -/
def Vc34 (a_c1 : Option Addr) (w : World) (R : Ending → World → Prop) : Prop :=
  (((a_c1 ≠ none) → (∃ (b2 o3 : Nat), a_c1 = some ⟨b2, o3, none⟩ ∧ (∃ x4 : Option Addr, World.cell? w ⟨b2, o3, none⟩ = some (.pointer x4) ∧ R (.returned (.bool (!x4.isNone))) w))) ∧ ((a_c1 = none) → R (.returned (.bool false)) w))

theorem vc34 {a_c1 : Option Addr} {w : World} {R : Ending → World → Prop} (H : Vc34 a_c1 w R) : Calls Tryd.prog 34 #[.pointer a_c1] w R := by
  unfold Vc34 at H
  refine calls_start [.pointer a_c1] Tryd.func34 rfl Tryd.ntmps34 rfl ?_
  refine c_seq ?_
  intro K1 hK1
  refine c_region ?_
  refine L_val (v := .bool false) (y_assign ev_c) ?_
  refine l_nil ?_
  refine then_norm ?_
  refine hK1 _ _ ?_
  clear hK1
  refine c_seq ?_
  intro K2 hK2
  refine c_region ?_
  refine L_val (v := .pointer a_c1) (y_move (ev_tv rfl rfl)) ?_
  refine L_val (v := .bool (!a_c1.isNone)) (y_pne Tryd.underlying33 (ev_tv rfl rfl) ev_c) ?_
  refine L_val (v := .bool (!a_c1.isNone)) (y_move (ev_tv rfl rfl)) ?_
  rcases (Classical.em (a_c1 ≠ none)) with hb3 | hb3
  · replace H := H.1 hb3
    have hq4 : Value.bool (!a_c1.isNone) = Value.bool true := congrArg Value.bool (nisn_t hb3)
    refine G_val (dj := 5) rfl rfl hq4 (v := .pointer a_c1) (y_move (ev_tv rfl rfl)) ?_
    obtain ⟨b2, o3, rfl, H⟩ := H
    refine G_val (dj := 5) rfl rfl hq4 (v := .pointer (some ⟨b2, o3, none⟩)) (y_nilCheck (ev_tv rfl rfl)) ?_
    refine G_val (dj := 5) rfl rfl hq4 (v := .pointer (some ⟨b2, o3, none⟩)) (Tryd.fa78_0 (ev_tv rfl rfl)) ?_
    obtain ⟨x4, hc5, H⟩ := H
    refine G_val (dj := 5) rfl rfl hq4 (v := .pointer x4) (y_load Tryd.underlying30 rfl (ev_tv rfl rfl) hc5) ?_
    refine G_val (dj := 5) rfl rfl hq4 (v := .bool (!x4.isNone)) (y_pne Tryd.underlying30 (ev_tv rfl rfl) ev_c) ?_
    refine L_val (v := .bool (!x4.isNone)) (y_pick_t (ev_tv rfl hq4) (ev_tv rfl rfl)) ?_
    refine L_val (v := .bool (!x4.isNone)) (y_assign (ev_tv rfl rfl)) ?_
    refine l_nil ?_
    refine then_norm ?_
    refine hK2 _ _ ?_
    clear hK2
    refine c_ret ?_
    exact body_1 rfl (ev_tv rfl rfl) H
  · replace hb3 : a_c1 = none := Classical.not_not.1 hb3
    replace H := H.2 hb3
    have hq4 : Value.bool (!a_c1.isNone) = Value.bool false := congrArg Value.bool (nisn_f hb3)
    refine G_not (b' := false) (dj := 5) rfl rfl hq4 rfl ?_
    refine G_not (b' := false) (dj := 5) rfl rfl hq4 rfl ?_
    refine G_not (b' := false) (dj := 5) rfl rfl hq4 rfl ?_
    refine G_not (b' := false) (dj := 5) rfl rfl hq4 rfl ?_
    refine G_not (b' := false) (dj := 5) rfl rfl hq4 rfl ?_
    refine L_val (v := .bool false) (y_pick_f (ev_tv rfl hq4) ev_c) ?_
    refine L_val (v := .bool false) (y_assign (ev_tv rfl rfl)) ?_
    refine l_nil ?_
    refine then_norm ?_
    refine hK2 _ _ ?_
    clear hK2
    refine c_ret ?_
    exact body_1 rfl (ev_tv rfl rfl) H

/-- (parapet/parapetref19.Cache).find -/
def Vc35 (a_c1 : Option Addr) (a_k2 : Int) (a_k3 : ByteArray) (w : World) (R : Ending → World → Prop) : Prop :=
  (∀ (b4 : Nat) (w5 : World), b4 = World.heapSize w → w5 = World.alloc w (.cells #[.int .i64 a_k2, .string a_k3] 42) → (∃ I6 : Nat → Int → World → Prop, (∃ m, I6 m 0 w5) ∧ ∀ (m7 : Nat) (v6 : Int) (w8 : World), I6 m7 v6 w8 → (∃ (b9 o10 : Nat), a_c1 = some ⟨b9, o10, none⟩ ∧ (∃ x11 : Option Addr, ∃ x11l : Nat, ∃ x11c : Nat, World.cell? w8 ⟨b9, o10 + 1, none⟩ = some (.slice x11 x11l x11c) ∧ ((((v6 : Int) < ((x11l : Nat) : Int)) → (∃ x12 : Option Addr, ∃ x12l : Nat, ∃ x12c : Nat, World.cell? (w8.drew) ⟨b9, o10 + 1, none⟩ = some (.slice x12 x12l x12c) ∧ (∃ (b13 o14 : Nat), x12 = some ⟨b13, o14, none⟩ ∧ ((0 : Int) ≤ v6 ∧ v6 < ((x12l : Nat) : Int) ∧ (∃ x15 : Int, ∃ x16 : ByteArray, CellsAt (w8.drew) ⟨b13, o14 + (v6 : Int).toNat * 4, none⟩ [.int .i64 x15, .string x16] ∧ (∃ x17 : Int, ∃ x18 : ByteArray, CellsAt (w8.drew) ⟨b4, 0, none⟩ [.int .i64 x17, .string x18] ∧ (∃ q19 : Bool, (∀ w' : World, (eqGuard .eql 42 (.tmp 22) (.tmp 23) (.agg #[.int .i64 x15, .string x16]) (.agg #[.int .i64 x17, .string x18])).run Tryd.prog w' = .ok () w') ∧ (∀ w' : World, (binOp .eql 42 (.agg #[.int .i64 x15, .string x16]) (.agg #[.int .i64 x17, .string x18])).run Tryd.prog w' = .ok (.bool q19) w') ∧ (((q19 = true) → R (.returned (.int .i64 v6)) (w8.drew)) ∧ ((q19 = false) → (∀ r20 : Int, r20 = IntKind.wrap .i64 (v6 + 1) → (∃ m21, m21 < m7 ∧ I6 m21 r20 (w8.drew)))))))))))) ∧ ((¬ ((v6 : Int) < ((x11l : Nat) : Int))) → R (.returned (.int .i64 (-1))) w8))))))

theorem vc35 {a_c1 : Option Addr} {a_k2 : Int} {a_k3 : ByteArray} {w : World} {R : Ending → World → Prop} (H : Vc35 a_c1 a_k2 a_k3 w R) : Calls Tryd.prog 35 #[.pointer a_c1, .agg #[.int .i64 a_k2, .string a_k3]] w R := by
  unfold Vc35 at H
  refine calls_start [.pointer a_c1, .agg #[.int .i64 a_k2, .string a_k3]] Tryd.func35 rfl Tryd.ntmps35 rfl ?_
  refine c_seq ?_
  intro K1 hK1
  refine c_region ?_
  obtain ⟨b4, hb2⟩ : ∃ b4 : Nat, b4 = World.heapSize w := ⟨_, rfl⟩
  obtain ⟨w5, hw3⟩ : ∃ w5 : World, w5 = World.alloc w (.cells #[.int .i64 a_k2, .string a_k3] 42) := ⟨_, rfl⟩
  replace H := H b4 w5 hb2 hw3
  refine L_val (v := .pointer (some ⟨b4, 0, none⟩)) (y_box (ev_tv rfl rfl) rfl hb2 hw3) ?_
  refine L_val (v := .int .i64 0) (y_assign ev_c) ?_
  refine l_nil ?_
  refine then_norm ?_
  refine hK1 _ _ ?_
  clear hK1
  refine c_seq ?_
  intro K4 hK4
  refine c_seq ?_
  intro K5 hK5
  refine c_region ?_
  refine L_val (v := .int .i64 0) (y_assign ev_c) ?_
  refine l_nil ?_
  refine then_norm ?_
  refine hK5 _ _ ?_
  clear hK5
  refine c_block ?_
  obtain ⟨I6, ⟨m10, HI11⟩, H⟩ := H
  refine loop_fr ([(4, 25)]) (fun m ff ww => ∃ (v6 : Int), ff 5 = (.int .i64 v6 : Value) ∧ I6 m v6 ww) m10 ⟨0, rfl, HI11⟩ ?_
  rintro m7 f7 w8 hag8 ⟨v6, hs12, HI9⟩
  replace H := H m7 v6 w8 HI9
  refine c_seq ?_
  intro K13 hK13
  refine c_seq ?_
  intro K14 hK14
  refine c_region ?_
  refine L_val (v := .int .i64 v6) (y_move (ev_tv rfl hs12)) ?_
  refine L_val (v := .pointer a_c1) (y_move (ev_tv rfl ((hag8 0 rfl).trans rfl))) ?_
  obtain ⟨b9, o10, rfl, H⟩ := H
  refine L_val (v := .pointer (some ⟨b9, o10, none⟩)) (y_nilCheck (ev_tv rfl rfl)) ?_
  refine L_val (v := .pointer (some ⟨b9, o10 + 1, none⟩)) (Tryd.fa40_1 (ev_tv rfl rfl)) ?_
  obtain ⟨x11, x11l, x11c, hc15, H⟩ := H
  refine L_val (v := .slice x11 x11l x11c) (y_load Tryd.underlying37 rfl (ev_tv rfl rfl) hc15) ?_
  refine L_val (v := .int .i64 ((x11l : Nat) : Int)) (y_len Tryd.underlying37 rfl (map_ev1 (ev_tv rfl rfl))) ?_
  refine L_val (v := .bool (decide ((v6 : Int) < ((x11l : Nat) : Int)))) (y_lss (ev_tv rfl rfl) (ev_tv rfl rfl)) ?_
  refine l_nil ?_
  refine then_norm ?_
  refine hK14 _ _ ?_
  clear hK14
  rcases (Decidable.em ((v6 : Int) < ((x11l : Nat) : Int))) with hb16 | hb16
  · replace H := H.1 hb16
    have hq17 : Value.bool (decide ((v6 : Int) < ((x11l : Nat) : Int))) = Value.bool true := congrArg Value.bool (decide_eq_true hb16)
    refine cond_t (ev_tv rfl hq17) ?_
    refine c_skip ?_
    refine then_norm ?_
    refine hK13 _ _ ?_
    clear hK13
    refine c_seq ?_
    intro K18 hK18
    refine c_block ?_
    refine c_seq ?_
    intro K19 hK19
    refine D_start Tryd.mixed rfl [] ?_
    refine start_keep fun hS => ?_
    refine D_pure (i := 0) (v := .pointer (some ⟨b9, o10, none⟩)) rfl (by kernel_rfl) (W_none rfl) (fun _ => y_move (ev_tv rfl ((hag8 0 rfl).trans rfl))) hS ?_
    intro hS
    refine D_pure (i := 1) (v := .pointer (some ⟨b9, o10, none⟩)) rfl (by kernel_rfl) (W_none rfl) (fun _ => y_nilCheck (ev_tv rfl rfl)) hS ?_
    intro hS
    refine D_pure (i := 2) (v := .pointer (some ⟨b9, o10 + 1, none⟩)) rfl (by kernel_rfl) (W_none rfl) (fun _ => Tryd.fa40_1 (ev_tv rfl rfl)) hS ?_
    intro hS
    refine D_pure (i := 4) (v := .int .i64 v6) rfl (by kernel_rfl) (W_none rfl) (fun _ => y_move (ev_tv rfl hs12)) hS ?_
    intro hS
    obtain ⟨x12, x12l, x12c, hc20, H⟩ := H
    refine D_read (i := 3) (v := .slice x12 x12l x12c) rfl (by kernel_rfl) (W_none rfl) (fun wx => World.cell? wx ⟨b9, o10 + 1, none⟩ = some (.slice x12 x12l x12c)) hc20 (fun _ hcx => y_load Tryd.underlying37 rfl (ev_tv rfl rfl) hcx) hS ?_
    intro hS
    obtain ⟨b13, o14, rfl, H⟩ := H
    obtain ⟨hi21, hi22, H⟩ := H
    refine D_pure (i := 5) (v := .pointer (some ⟨b13, o14 + (v6 : Int).toNat * 4, none⟩)) rfl (by kernel_rfl) (W_none rfl) (fun _ => y_ix Tryd.underlying37 Tryd.type54 rfl (ev_tv rfl rfl) (ev_tv rfl rfl) hi21 hi22) hS ?_
    intro hS
    refine D_pure (i := 6) (v := .pointer (some ⟨b13, o14 + (v6 : Int).toNat * 4, none⟩)) rfl (by kernel_rfl) (W_none rfl) (fun _ => Tryd.fa54_0 (ev_tv rfl rfl)) hS ?_
    intro hS
    obtain ⟨x15, x16, hc23, H⟩ := H
    refine D_read (i := 7) (v := .agg #[.int .i64 x15, .string x16]) rfl (by kernel_rfl) (W_none rfl) (fun wx => CellsAt wx ⟨b13, o14 + (v6 : Int).toNat * 4, none⟩ [.int .i64 x15, .string x16]) hc23 (fun _ hcx => y_loadAgg Tryd.underlying42 rfl Tryd.type42 rfl (ev_tv rfl rfl) hcx) hS ?_
    intro hS
    obtain ⟨x17, x18, hc24, H⟩ := H
    refine D_read (i := 8) (v := .agg #[.int .i64 x17, .string x18]) rfl (by kernel_rfl) (W_none rfl) (fun wx => CellsAt wx ⟨b4, 0, none⟩ [.int .i64 x17, .string x18]) hc24 (fun _ hcx => y_loadAgg Tryd.underlying42 rfl Tryd.type42 rfl (ev_tv rfl ((hag8 3 rfl).trans rfl)) hcx) hS ?_
    intro hS
    obtain ⟨q19, hg26, hc25, H⟩ := H
    refine D_pure (i := 9) (v := .bool q19) rfl (by kernel_rfl) (W_none rfl) (fun _ => y_eqv (ev_tv rfl rfl) (ev_tv rfl rfl) (hg26 _) (hc25 _)) hS ?_
    intro hS
    refine D_done (by kernel_rfl) ?_
    refine then_norm ?_
    refine hK19 _ _ ?_
    clear hK19
    rcases Bool.eq_false_or_eq_true q19 with hb27 | hb27
    · replace H := H.1 hb27
      have hq28 : Value.bool (q19) = Value.bool true := congrArg Value.bool hb27
      refine cond_t (ev_tv rfl hq28) ?_
      refine c_seq ?_
      intro K29 hK29
      refine c_region ?_
      refine L_val (v := .int .i64 v6) (y_move (ev_tv rfl hs12)) ?_
      refine L_val (v := .int .i64 v6) (y_assign (ev_tv rfl rfl)) ?_
      refine l_nil ?_
      refine then_norm ?_
      refine hK29 _ _ ?_
      clear hK29
      refine c_ret ?_
      refine block_ret ?_
      refine then_ret ?_
      refine then_ret ?_
      refine block_ret ?_
      refine then_ret ?_
      exact body_1 rfl (ev_tv rfl rfl) H
    · replace H := H.2 hb27
      have hq28 : Value.bool (q19) = Value.bool false := congrArg Value.bool hb27
      refine cond_f (ev_tv rfl hq28) ?_
      refine c_skip ?_
      refine block_norm ?_
      refine then_norm ?_
      refine hK18 _ _ ?_
      clear hK18
      refine c_region ?_
      refine L_val (v := .int .i64 v6) (y_move (ev_tv rfl hs12)) ?_
      obtain ⟨r20, hr30⟩ : ∃ r20 : Int, r20 = IntKind.wrap .i64 (v6 + 1) := ⟨_, rfl⟩
      replace H := H r20 hr30
      refine L_val (v := .int .i64 r20) (y_add (ev_tv rfl rfl) ev_c hr30) ?_
      refine L_val (v := .int .i64 r20) (y_assign (ev_tv rfl rfl)) ?_
      refine l_nil ?_
      refine then_norm ?_
      obtain ⟨m21, hm31, H⟩ := H
      exact ⟨_, rfl, (by repeat (first | exact agree_refl | exact hag8 | refine agree_upd rfl ?_ | refine agree_via hag8 rfl ?_)), m21, hm31, _, rfl, H⟩
  · replace H := H.2 hb16
    have hq17 : Value.bool (decide ((v6 : Int) < ((x11l : Nat) : Int))) = Value.bool false := congrArg Value.bool (decide_eq_false hb16)
    refine cond_f (ev_tv rfl hq17) ?_
    refine c_exit ?_
    refine then_exit ?_
    refine then_exit ?_
    refine block_hit ?_
    refine then_norm ?_
    refine hK4 _ _ ?_
    clear hK4
    refine c_seq ?_
    intro K32 hK32
    refine c_region ?_
    refine L_val (v := .int .i64 (-1)) (y_assign ev_c) ?_
    refine l_nil ?_
    refine then_norm ?_
    refine hK32 _ _ ?_
    clear hK32
    refine c_ret ?_
    exact body_1 rfl (ev_tv rfl rfl) H

/-- (parapet/parapetref19.Cache).drop -/
def Vc36 (a_c1 : Option Addr) (a_i2 : Int) (w : World) (R : Ending → World → Prop) : Prop :=
  (∃ (b3 o4 : Nat), a_c1 = some ⟨b3, o4, none⟩ ∧ (∃ x5 : Option Addr, ∃ x5l : Nat, ∃ x5c : Nat, World.cell? (w.drew) ⟨b3, o4 + 3, none⟩ = some (.slice x5 x5l x5c) ∧ (∃ x6 : Option Addr, ∃ x6l : Nat, ∃ x6c : Nat, World.cell? (w.drew) ⟨b3, o4 + 1, none⟩ = some (.slice x6 x6l x6c) ∧ (∃ (b7 o8 : Nat), x6 = some ⟨b7, o8, none⟩ ∧ ((0 : Int) ≤ a_i2 ∧ a_i2 < ((x6l : Nat) : Int) ∧ (∃ x9 : Int, World.cell? (w.drew) ⟨b7, o8 + (a_i2 : Int).toNat * 4 + 3, none⟩ = some (.int .i64 x9) ∧ (∀ (b10 : Nat) (w11 : World), b10 = World.heapSize (w.drew) → w11 = World.alloc (w.drew) (.cells #[.int .i64 x9] 3) → (World.cell? w11 ⟨b3, o4 + 1, none⟩ = some (.slice x6 x6l x6c) ∧ World.cell? w11 ⟨b3, o4 + 3, none⟩ = some (.slice x5 x5l x5c) ∧ (∃ x13 : Option Addr, ∃ x13l : Nat, ∃ x13c : Nat, ∃ w12 : World, (Builtin.append_ #[38, 38] 38 #[.slice x5 x5l x5c, .slice (some ⟨b10, 0, none⟩) 1 1]).run Tryd.prog w11 = .ok (.slice x13 x13l x13c) w12 ∧ (World.cell? w12 ⟨b3, o4 + 1, none⟩ = some (.slice x6 x6l x6c) ∧ ((World.cell? w12 ⟨b3, o4 + 3, none⟩).isSome = true ∧ World.frozen? w12 ⟨b3, o4 + 3, none⟩ = false ∧ ∀ w14 : World, w14 = World.setCell w12 ⟨b3, o4 + 3, none⟩ (.slice x13 x13l x13c) → (∀ r15 : Int, r15 = IntKind.wrap .i64 (a_i2 + 1) → (∃ x16 : Option Addr, ∃ x16l : Nat, ∃ x16c : Nat, World.cell? (w14.drew) ⟨b3, o4 + 1, none⟩ = some (.slice x16 x16l x16c) ∧ ((0 : Int) ≤ a_i2 ∧ a_i2 ≤ ((x16c : Nat) : Int) ∧ ∀ a17 : Option Addr, a17 = x16 → (∃ x18 : Option Addr, ∃ x18l : Nat, ∃ x18c : Nat, World.cell? (w14.drew) ⟨b3, o4 + 1, none⟩ = some (.slice x18 x18l x18c) ∧ ((0 : Int) ≤ r15 ∧ r15 ≤ ((x18l : Nat) : Int) ∧ ∀ a19 : Option Addr, a19 = subA x18 4 x18c (r15 : Int).toNat → (∀ (b20 : Nat) (w21 : World), b20 = World.heapSize (w14.drew) → w21 = World.alloc (w14.drew) (.cells #[] 54) → (World.cell? w21 ⟨b3, o4 + 1, none⟩ = some (.slice x18 x18l x18c) ∧ World.cell? w21 ⟨b3, o4 + 1, none⟩ = some (.slice x16 x16l x16c) ∧ (∃ x23 : Option Addr, ∃ x23l : Nat, ∃ x23c : Nat, ∃ w22 : World, (Builtin.append_ #[37, 37] 37 #[.slice (some ⟨b20, 0, none⟩) 0 0, .slice a17 ((a_i2 : Int).toNat) x16c]).run Tryd.prog w21 = .ok (.slice x23 x23l x23c) w22 ∧ (World.cell? w22 ⟨b3, o4 + 1, none⟩ = some (.slice x18 x18l x18c) ∧ World.cell? w22 ⟨b3, o4 + 1, none⟩ = some (.slice x16 x16l x16c) ∧ (∃ x25 : Option Addr, ∃ x25l : Nat, ∃ x25c : Nat, ∃ w24 : World, (Builtin.append_ #[37, 37] 37 #[.slice x23 x23l x23c, .slice a19 (x18l - (r15 : Int).toNat) (x18c - (r15 : Int).toNat)]).run Tryd.prog w22 = .ok (.slice x25 x25l x25c) w24 ∧ (World.cell? w24 ⟨b3, o4 + 1, none⟩ = some (.slice x18 x18l x18c) ∧ World.cell? w24 ⟨b3, o4 + 1, none⟩ = some (.slice x16 x16l x16c) ∧ ((World.cell? w24 ⟨b3, o4 + 1, none⟩).isSome = true ∧ World.frozen? w24 ⟨b3, o4 + 1, none⟩ = false ∧ ∀ w26 : World, w26 = World.setCell w24 ⟨b3, o4 + 1, none⟩ (.slice x25 x25l x25c) → R (.returned (.tuple #[])) w26)))))))))))))))))))))))

theorem vc36 {a_c1 : Option Addr} {a_i2 : Int} {w : World} {R : Ending → World → Prop} (H : Vc36 a_c1 a_i2 w R) : Calls Tryd.prog 36 #[.pointer a_c1, .int .i64 a_i2] w R := by
  unfold Vc36 at H
  refine calls_start [.pointer a_c1, .int .i64 a_i2] Tryd.func36 rfl Tryd.ntmps36 rfl ?_
  refine c_seq ?_
  intro K1 hK1
  refine D_start Tryd.mixed rfl [13, 14, 17] ?_
  refine start_keep fun hS => ?_
  refine D_pure (i := 0) (v := .pointer a_c1) rfl (by kernel_rfl) (W_none rfl) (fun _ => y_move (ev_tv rfl rfl)) hS ?_
  intro hS
  refine D_pure (i := 1) (v := .pointer a_c1) rfl (by kernel_rfl) (W_none rfl) (fun _ => y_move (ev_tv rfl rfl)) hS ?_
  intro hS
  obtain ⟨b3, o4, rfl, H⟩ := H
  refine D_pure (i := 2) (v := .pointer (some ⟨b3, o4, none⟩)) rfl (by kernel_rfl) (W_none rfl) (fun _ => y_nilCheck (ev_tv rfl rfl)) hS ?_
  intro hS
  refine D_pure (i := 3) (v := .pointer (some ⟨b3, o4 + 3, none⟩)) rfl (by kernel_rfl) (W_none rfl) (fun _ => Tryd.fa40_3 (ev_tv rfl rfl)) hS ?_
  intro hS
  refine D_pure (i := 5) (v := .pointer (some ⟨b3, o4, none⟩)) rfl (by kernel_rfl) (W_none rfl) (fun _ => y_move (ev_tv rfl rfl)) hS ?_
  intro hS
  refine D_pure (i := 6) (v := .pointer (some ⟨b3, o4, none⟩)) rfl (by kernel_rfl) (W_none rfl) (fun _ => y_nilCheck (ev_tv rfl rfl)) hS ?_
  intro hS
  refine D_pure (i := 7) (v := .pointer (some ⟨b3, o4 + 1, none⟩)) rfl (by kernel_rfl) (W_none rfl) (fun _ => Tryd.fa40_1 (ev_tv rfl rfl)) hS ?_
  intro hS
  refine D_pure (i := 9) (v := .int .i64 a_i2) rfl (by kernel_rfl) (W_none rfl) (fun _ => y_move (ev_tv rfl rfl)) hS ?_
  intro hS
  obtain ⟨x5, x5l, x5c, hc2, H⟩ := H
  refine D_read (i := 4) (v := .slice x5 x5l x5c) rfl (by kernel_rfl) (W_none rfl) (fun wx => World.cell? wx ⟨b3, o4 + 3, none⟩ = some (.slice x5 x5l x5c)) hc2 (fun _ hcx => y_load Tryd.underlying38 rfl (ev_tv rfl rfl) hcx) hS ?_
  intro hS
  obtain ⟨x6, x6l, x6c, hc3, H⟩ := H
  refine D_read (i := 8) (v := .slice x6 x6l x6c) rfl (by kernel_rfl) (W_none rfl) (fun wx => World.cell? wx ⟨b3, o4 + 1, none⟩ = some (.slice x6 x6l x6c)) hc3 (fun _ hcx => y_load Tryd.underlying37 rfl (ev_tv rfl rfl) hcx) hS ?_
  intro hS
  obtain ⟨b7, o8, rfl, H⟩ := H
  obtain ⟨hi4, hi5, H⟩ := H
  refine D_pure (i := 10) (v := .pointer (some ⟨b7, o8 + (a_i2 : Int).toNat * 4, none⟩)) rfl (by kernel_rfl) (W_none rfl) (fun _ => y_ix Tryd.underlying37 Tryd.type54 rfl (ev_tv rfl rfl) (ev_tv rfl rfl) hi4 hi5) hS ?_
  intro hS
  refine D_pure (i := 11) (v := .pointer (some ⟨b7, o8 + (a_i2 : Int).toNat * 4 + 3, none⟩)) rfl (by kernel_rfl) (W_none rfl) (fun _ => Tryd.fa54_2 (ev_tv rfl rfl)) hS ?_
  intro hS
  obtain ⟨x9, hc6, H⟩ := H
  refine D_read (i := 12) (v := .int .i64 x9) rfl (by kernel_rfl) (W_none rfl) (fun wx => World.cell? wx ⟨b7, o8 + (a_i2 : Int).toNat * 4 + 3, none⟩ = some (.int .i64 x9)) hc6 (fun _ hcx => y_load Tryd.underlying3 rfl (ev_tv rfl rfl) hcx) hS ?_
  intro hS
  refine D_only (i := 13) (by kernel_rfl) rfl ?_
  obtain ⟨b10, hb7⟩ : ∃ b10 : Nat, b10 = World.heapSize (w.drew) := ⟨_, rfl⟩
  obtain ⟨w11, hw8⟩ : ∃ w11 : World, w11 = World.alloc (w.drew) (.cells #[.int .i64 x9] 3) := ⟨_, rfl⟩
  replace H := H b10 w11 hb7 hw8
  refine O_val (i := 13) (v := .slice (some ⟨b10, 0, none⟩) 1 1) rfl (W_none rfl) (y_buildSlice (parts_ev1 (ev_tv rfl rfl)) hb7 hw8 (by kernel_rfl)) ?_
  obtain ⟨hs36, hs37, H⟩ := H
  refine and_keep (SS_off (by kernel_rfl) (SS_on hs36 (SS_on hs37 SS_nil))) fun hS => ?_
  refine D_only (i := 14) (by kernel_rfl) rfl ?_
  obtain ⟨x13, x13l, x13c, w12, hc9, H⟩ := H
  refine O_val (i := 14) (v := .slice x13 x13l x13c) rfl (W_none rfl) (y_bi_append (map_ev2 (ev_tv rfl rfl) (ev_tv rfl rfl)) hc9) ?_
  obtain ⟨hs35, H⟩ := H
  refine and_keep (SS_off (by kernel_rfl) (SS_on hs35 (SS_off (by kernel_rfl) SS_nil))) fun hS => ?_
  refine D_pure (i := 15) (v := .pointer (some ⟨b3, o4, none⟩)) rfl (by kernel_rfl) (W_none rfl) (fun _ => y_nilCheck (ev_tv rfl rfl)) hS ?_
  intro hS
  refine D_pure (i := 16) (v := .pointer (some ⟨b3, o4 + 3, none⟩)) rfl (by kernel_rfl) (W_none rfl) (fun _ => Tryd.fa40_3 (ev_tv rfl rfl)) hS ?_
  intro hS
  refine D_only (i := 17) (by kernel_rfl) rfl ?_
  obtain ⟨hc10, hf11, H⟩ := H
  obtain ⟨w14, hw12⟩ : ∃ w14 : World, w14 = World.setCell w12 ⟨b3, o4 + 3, none⟩ (.slice x13 x13l x13c) := ⟨_, rfl⟩
  replace H := H w14 hw12
  refine O_skip (i := 17) rfl (W_none rfl) (y_store Tryd.type38 rfl rfl (ev_tv rfl rfl) (ev_tv rfl rfl) hc10 hf11 hw12) ?_
  refine and_keep (SS_off (by kernel_rfl) (SS_off (by kernel_rfl) (SS_off (by kernel_rfl) SS_nil))) fun hS => ?_
  refine D_done (by kernel_rfl) ?_
  refine then_norm ?_
  refine hK1 _ _ ?_
  clear hK1
  refine D_start Tryd.mixed rfl [1, 8, 16, 19] ?_
  refine start_keep fun hS => ?_
  refine D_pure (i := 0) (v := .pointer (some ⟨b3, o4, none⟩)) rfl (by kernel_rfl) (W_none rfl) (fun _ => y_move (ev_tv rfl rfl)) hS ?_
  intro hS
  refine D_pure (i := 2) (v := .pointer (some ⟨b3, o4, none⟩)) rfl (by kernel_rfl) (W_none rfl) (fun _ => y_move (ev_tv rfl rfl)) hS ?_
  intro hS
  refine D_pure (i := 3) (v := .pointer (some ⟨b3, o4, none⟩)) rfl (by kernel_rfl) (W_none rfl) (fun _ => y_nilCheck (ev_tv rfl rfl)) hS ?_
  intro hS
  refine D_pure (i := 4) (v := .pointer (some ⟨b3, o4 + 1, none⟩)) rfl (by kernel_rfl) (W_none rfl) (fun _ => Tryd.fa40_1 (ev_tv rfl rfl)) hS ?_
  intro hS
  refine D_pure (i := 6) (v := .int .i64 a_i2) rfl (by kernel_rfl) (W_none rfl) (fun _ => y_move (ev_tv rfl rfl)) hS ?_
  intro hS
  refine D_pure (i := 9) (v := .pointer (some ⟨b3, o4, none⟩)) rfl (by kernel_rfl) (W_none rfl) (fun _ => y_move (ev_tv rfl rfl)) hS ?_
  intro hS
  refine D_pure (i := 10) (v := .pointer (some ⟨b3, o4, none⟩)) rfl (by kernel_rfl) (W_none rfl) (fun _ => y_nilCheck (ev_tv rfl rfl)) hS ?_
  intro hS
  refine D_pure (i := 11) (v := .pointer (some ⟨b3, o4 + 1, none⟩)) rfl (by kernel_rfl) (W_none rfl) (fun _ => Tryd.fa40_1 (ev_tv rfl rfl)) hS ?_
  intro hS
  refine D_pure (i := 13) (v := .int .i64 a_i2) rfl (by kernel_rfl) (W_none rfl) (fun _ => y_move (ev_tv rfl rfl)) hS ?_
  intro hS
  obtain ⟨r15, hr13⟩ : ∃ r15 : Int, r15 = IntKind.wrap .i64 (a_i2 + 1) := ⟨_, rfl⟩
  replace H := H r15 hr13
  refine D_pure (i := 14) (v := .int .i64 r15) rfl (by kernel_rfl) (W_none rfl) (fun _ => y_add (ev_tv rfl rfl) ev_c hr13) hS ?_
  intro hS
  obtain ⟨x16, x16l, x16c, hc14, H⟩ := H
  refine D_read (i := 5) (v := .slice x16 x16l x16c) rfl (by kernel_rfl) (W_none rfl) (fun wx => World.cell? wx ⟨b3, o4 + 1, none⟩ = some (.slice x16 x16l x16c)) hc14 (fun _ hcx => y_load Tryd.underlying37 rfl (ev_tv rfl rfl) hcx) hS ?_
  intro hS
  obtain ⟨hi16, hi17, H⟩ := H
  obtain ⟨a17, ha15⟩ : ∃ a17 : Option Addr, a17 = x16 := ⟨_, rfl⟩
  replace H := H a17 ha15
  refine D_pure (i := 7) (v := .slice a17 ((a_i2 : Int).toNat) x16c) rfl (by kernel_rfl) (W_none rfl) (fun _ => y_sliceH Tryd.underlying37 Tryd.type54 (ev_tv rfl rfl) (ev_tv rfl rfl) hi16 hi17 ha15) hS ?_
  intro hS
  obtain ⟨x18, x18l, x18c, hc18, H⟩ := H
  refine D_read (i := 12) (v := .slice x18 x18l x18c) rfl (by kernel_rfl) (W_none rfl) (fun wx => World.cell? wx ⟨b3, o4 + 1, none⟩ = some (.slice x18 x18l x18c)) hc18 (fun _ hcx => y_load Tryd.underlying37 rfl (ev_tv rfl rfl) hcx) hS ?_
  intro hS
  obtain ⟨hi20, hi21, H⟩ := H
  obtain ⟨a19, ha19⟩ : ∃ a19 : Option Addr, a19 = subA x18 4 x18c (r15 : Int).toNat := ⟨_, rfl⟩
  replace H := H a19 ha19
  refine D_pure (i := 15) (v := .slice a19 (x18l - (r15 : Int).toNat) (x18c - (r15 : Int).toNat)) rfl (by kernel_rfl) (W_none rfl) (fun _ => y_sliceL Tryd.underlying37 Tryd.type54 rfl (ev_tv rfl rfl) (ev_tv rfl rfl) hi20 hi21 ha19) hS ?_
  intro hS
  refine D_only (i := 1) (by kernel_rfl) rfl ?_
  obtain ⟨b20, hb22⟩ : ∃ b20 : Nat, b20 = World.heapSize (w14.drew) := ⟨_, rfl⟩
  obtain ⟨w21, hw23⟩ : ∃ w21 : World, w21 = World.alloc (w14.drew) (.cells #[] 54) := ⟨_, rfl⟩
  replace H := H b20 w21 hb22 hw23
  refine O_val (i := 1) (v := .slice (some ⟨b20, 0, none⟩) 0 0) rfl (W_none rfl) (y_buildSlice rfl hb22 hw23 (by kernel_rfl)) ?_
  obtain ⟨hs33, hs34, H⟩ := H
  refine and_keep (SS_on hs33 (SS_on hs34 SS_nil)) fun hS => ?_
  refine D_only (i := 8) (by kernel_rfl) rfl ?_
  obtain ⟨x23, x23l, x23c, w22, hc24, H⟩ := H
  refine O_val (i := 8) (v := .slice x23 x23l x23c) rfl (W_none rfl) (y_bi_append (map_ev2 (ev_tv rfl rfl) (ev_tv rfl rfl)) hc24) ?_
  obtain ⟨hs31, hs32, H⟩ := H
  refine and_keep (SS_on hs31 (SS_on hs32 SS_nil)) fun hS => ?_
  refine D_only (i := 16) (by kernel_rfl) rfl ?_
  obtain ⟨x25, x25l, x25c, w24, hc25, H⟩ := H
  refine O_val (i := 16) (v := .slice x25 x25l x25c) rfl (W_none rfl) (y_bi_append (map_ev2 (ev_tv rfl rfl) (ev_tv rfl rfl)) hc25) ?_
  obtain ⟨hs29, hs30, H⟩ := H
  refine and_keep (SS_on hs29 (SS_on hs30 SS_nil)) fun hS => ?_
  refine D_pure (i := 17) (v := .pointer (some ⟨b3, o4, none⟩)) rfl (by kernel_rfl) (W_none rfl) (fun _ => y_nilCheck (ev_tv rfl rfl)) hS ?_
  intro hS
  refine D_pure (i := 18) (v := .pointer (some ⟨b3, o4 + 1, none⟩)) rfl (by kernel_rfl) (W_none rfl) (fun _ => Tryd.fa40_1 (ev_tv rfl rfl)) hS ?_
  intro hS
  refine D_only (i := 19) (by kernel_rfl) rfl ?_
  obtain ⟨hc26, hf27, H⟩ := H
  obtain ⟨w26, hw28⟩ : ∃ w26 : World, w26 = World.setCell w24 ⟨b3, o4 + 1, none⟩ (.slice x25 x25l x25c) := ⟨_, rfl⟩
  replace H := H w26 hw28
  refine O_skip (i := 19) rfl (W_none rfl) (y_store Tryd.type37 rfl rfl (ev_tv rfl rfl) (ev_tv rfl rfl) hc26 hf27 hw28) ?_
  refine and_keep (SS_off (by kernel_rfl) (SS_off (by kernel_rfl) SS_nil)) fun hS => ?_
  refine D_done (by kernel_rfl) ?_
  refine body_norm ?_
  exact body_0 rfl H

/-- (parapet/rcu.Domain).Defer -/
def Vc37 (a_d1 : Option Addr) (a_id2 : Int) (w : World) (R : Ending → World → Prop) : Prop :=
  (Calls Tryd.prog 40 #[.pointer a_d1] w fun e w4 => ∃ x3 : Bool, e = .returned (.bool x3) ∧ (((x3 = true) → (Calls Tryd.prog 21 #[.pointer a_d1] w4 fun e w7 => ∃ x6 : Option Addr, ∃ x6l : Nat, ∃ x6c : Nat, e = .returned (.slice x6 x6l x6c) ∧ (Calls Tryd.prog 48 #[.slice x6 x6l x6c, .int .i64 a_id2] w7 fun e w10 => ∃ x9 : Bool, e = .returned (.bool x9) ∧ (((x9 = true) → R (.returned (.int .i64 101)) w10) ∧ ((x9 = false) → (∃ (b12 o13 : Nat), a_d1 = some ⟨b12, o13, none⟩ ∧ (∃ x14 : Option Addr, ∃ x14l : Nat, ∃ x14c : Nat, World.cell? (w10.drew) ⟨b12, o13 + 3, none⟩ = some (.slice x14 x14l x14c) ∧ (∃ x15 : Int, World.cell? (w10.drew) ⟨b12, o13 + 2, none⟩ = some (.int .i64 x15) ∧ (∀ (b16 : Nat) (w17 : World), b16 = World.heapSize (w10.drew) → w17 = World.alloc (w10.drew) (.cells #[.int .i64 a_id2, .int .i64 x15] 86) → (World.cell? w17 ⟨b12, o13 + 2, none⟩ = some (.int .i64 x15) ∧ World.cell? w17 ⟨b12, o13 + 3, none⟩ = some (.slice x14 x14l x14c) ∧ (∃ x19 : Option Addr, ∃ x19l : Nat, ∃ x19c : Nat, ∃ w18 : World, (Builtin.append_ #[73, 73] 73 #[.slice x14 x14l x14c, .slice (some ⟨b16, 0, none⟩) 1 1]).run Tryd.prog w17 = .ok (.slice x19 x19l x19c) w18 ∧ (World.cell? w18 ⟨b12, o13 + 2, none⟩ = some (.int .i64 x15) ∧ ((World.cell? w18 ⟨b12, o13 + 3, none⟩).isSome = true ∧ World.frozen? w18 ⟨b12, o13 + 3, none⟩ = false ∧ ∀ w20 : World, w20 = World.setCell w18 ⟨b12, o13 + 3, none⟩ (.slice x19 x19l x19c) → R (.returned (.int .i64 0)) w20))))))))))))) ∧ ((x3 = false) → R (.returned (.int .i64 6)) w4)))

theorem vc37 {a_d1 : Option Addr} {a_id2 : Int} {w : World} {R : Ending → World → Prop} (H : Vc37 a_d1 a_id2 w R) : Calls Tryd.prog 37 #[.pointer a_d1, .int .i64 a_id2] w R := by
  unfold Vc37 at H
  refine calls_start [.pointer a_d1, .int .i64 a_id2] Tryd.func37 rfl Tryd.ntmps37 rfl ?_
  refine c_seq ?_
  intro K1 hK1
  refine c_region ?_
  refine L_val (v := .int .i64 0) (y_assign ev_c) ?_
  refine l_nil ?_
  refine then_norm ?_
  refine hK1 _ _ ?_
  clear hK1
  refine c_seq ?_
  intro K2 hK2
  refine c_seq ?_
  intro K3 hK3
  refine c_region ?_
  refine L_val (v := .pointer a_d1) (y_move (ev_tv rfl rfl)) ?_
  refine L_call (y_call Tryd.call40 (map_ev1 (ev_tv rfl rfl)) ev_f) (Calls.mono H ?_)
  clear H
  rintro _ w4 ⟨x3, rfl, H⟩
  refine ⟨_, rfl, ?_⟩
  rcases Bool.eq_false_or_eq_true x3 with hb4 | hb4
  · replace H := H.1 hb4
    have hq5 : Value.bool (x3) = Value.bool true := congrArg Value.bool hb4
    refine L_val (v := .bool false) (y_not_t (ev_tv rfl hq5)) ?_
    refine l_nil ?_
    refine then_norm ?_
    refine hK3 _ _ ?_
    clear hK3
    refine cond_f (ev_tv rfl rfl) ?_
    refine c_skip ?_
    refine then_norm ?_
    refine hK2 _ _ ?_
    clear hK2
    refine c_seq ?_
    intro K6 hK6
    refine c_seq ?_
    intro K7 hK7
    refine c_region ?_
    refine L_val (v := .pointer a_d1) (y_move (ev_tv rfl rfl)) ?_
    refine L_call (y_call Tryd.call21 (map_ev1 (ev_tv rfl rfl)) ev_f) (Calls.mono H ?_)
    clear H
    rintro _ w7 ⟨x6, x6l, x6c, rfl, H⟩
    refine ⟨_, rfl, ?_⟩
    refine L_val (v := .int .i64 a_id2) (y_move (ev_tv rfl rfl)) ?_
    refine L_call (y_call Tryd.call48 (map_ev2 (ev_tv rfl rfl) (ev_tv rfl rfl)) ev_f) (Calls.mono H ?_)
    clear H
    rintro _ w10 ⟨x9, rfl, H⟩
    refine ⟨_, rfl, ?_⟩
    refine l_nil ?_
    refine then_norm ?_
    refine hK7 _ _ ?_
    clear hK7
    rcases Bool.eq_false_or_eq_true x9 with hb8 | hb8
    · replace H := H.1 hb8
      have hq9 : Value.bool (x9) = Value.bool true := congrArg Value.bool hb8
      refine cond_t (ev_tv rfl hq9) ?_
      refine c_seq ?_
      intro K10 hK10
      refine c_region ?_
      refine L_val (v := .int .i64 101) (y_assign ev_c) ?_
      refine l_nil ?_
      refine then_norm ?_
      refine hK10 _ _ ?_
      clear hK10
      refine c_ret ?_
      refine then_ret ?_
      exact body_1 rfl (ev_tv rfl rfl) H
    · replace H := H.2 hb8
      have hq9 : Value.bool (x9) = Value.bool false := congrArg Value.bool hb8
      refine cond_f (ev_tv rfl hq9) ?_
      refine c_skip ?_
      refine then_norm ?_
      refine hK6 _ _ ?_
      clear hK6
      refine c_seq ?_
      intro K11 hK11
      refine D_start Tryd.mixed rfl [11, 12, 15] ?_
      refine start_keep fun hS => ?_
      refine D_pure (i := 0) (v := .pointer a_d1) rfl (by kernel_rfl) (W_none rfl) (fun _ => y_move (ev_tv rfl rfl)) hS ?_
      intro hS
      refine D_pure (i := 1) (v := .pointer a_d1) rfl (by kernel_rfl) (W_none rfl) (fun _ => y_move (ev_tv rfl rfl)) hS ?_
      intro hS
      obtain ⟨b12, o13, rfl, H⟩ := H
      refine D_pure (i := 2) (v := .pointer (some ⟨b12, o13, none⟩)) rfl (by kernel_rfl) (W_none rfl) (fun _ => y_nilCheck (ev_tv rfl rfl)) hS ?_
      intro hS
      refine D_pure (i := 3) (v := .pointer (some ⟨b12, o13 + 3, none⟩)) rfl (by kernel_rfl) (W_none rfl) (fun _ => Tryd.fa75_3 (ev_tv rfl rfl)) hS ?_
      intro hS
      refine D_pure (i := 5) (v := .int .i64 a_id2) rfl (by kernel_rfl) (W_none rfl) (fun _ => y_move (ev_tv rfl rfl)) hS ?_
      intro hS
      refine D_pure (i := 6) (v := .pointer (some ⟨b12, o13, none⟩)) rfl (by kernel_rfl) (W_none rfl) (fun _ => y_move (ev_tv rfl rfl)) hS ?_
      intro hS
      refine D_pure (i := 7) (v := .pointer (some ⟨b12, o13, none⟩)) rfl (by kernel_rfl) (W_none rfl) (fun _ => y_nilCheck (ev_tv rfl rfl)) hS ?_
      intro hS
      refine D_pure (i := 8) (v := .pointer (some ⟨b12, o13 + 2, none⟩)) rfl (by kernel_rfl) (W_none rfl) (fun _ => Tryd.fa75_2 (ev_tv rfl rfl)) hS ?_
      intro hS
      obtain ⟨x14, x14l, x14c, hc12, H⟩ := H
      refine D_read (i := 4) (v := .slice x14 x14l x14c) rfl (by kernel_rfl) (W_none rfl) (fun wx => World.cell? wx ⟨b12, o13 + 3, none⟩ = some (.slice x14 x14l x14c)) hc12 (fun _ hcx => y_load Tryd.underlying73 rfl (ev_tv rfl rfl) hcx) hS ?_
      intro hS
      obtain ⟨x15, hc13, H⟩ := H
      refine D_read (i := 9) (v := .int .i64 x15) rfl (by kernel_rfl) (W_none rfl) (fun wx => World.cell? wx ⟨b12, o13 + 2, none⟩ = some (.int .i64 x15)) hc13 (fun _ hcx => y_load Tryd.underlying3 rfl (ev_tv rfl rfl) hcx) hS ?_
      intro hS
      refine D_pure (i := 10) (v := .agg #[.int .i64 a_id2, .int .i64 x15]) rfl (by kernel_rfl) (W_none rfl) (fun _ => y_build (parts_ev2 (ev_tv rfl rfl) (ev_tv rfl rfl)) (by kernel_rfl)) hS ?_
      intro hS
      refine D_only (i := 11) (by kernel_rfl) rfl ?_
      obtain ⟨b16, hb14⟩ : ∃ b16 : Nat, b16 = World.heapSize (w10.drew) := ⟨_, rfl⟩
      obtain ⟨w17, hw15⟩ : ∃ w17 : World, w17 = World.alloc (w10.drew) (.cells #[.int .i64 a_id2, .int .i64 x15] 86) := ⟨_, rfl⟩
      replace H := H b16 w17 hb14 hw15
      refine O_val (i := 11) (v := .slice (some ⟨b16, 0, none⟩) 1 1) rfl (W_none rfl) (y_buildSlice (parts_ev1 (ev_tv rfl rfl)) hb14 hw15 (by kernel_rfl)) ?_
      obtain ⟨hs22, hs23, H⟩ := H
      refine and_keep (SS_on hs22 (SS_on hs23 SS_nil)) fun hS => ?_
      refine D_only (i := 12) (by kernel_rfl) rfl ?_
      obtain ⟨x19, x19l, x19c, w18, hc16, H⟩ := H
      refine O_val (i := 12) (v := .slice x19 x19l x19c) rfl (W_none rfl) (y_bi_append (map_ev2 (ev_tv rfl rfl) (ev_tv rfl rfl)) hc16) ?_
      obtain ⟨hs21, H⟩ := H
      refine and_keep (SS_on hs21 (SS_off (by kernel_rfl) SS_nil)) fun hS => ?_
      refine D_pure (i := 13) (v := .pointer (some ⟨b12, o13, none⟩)) rfl (by kernel_rfl) (W_none rfl) (fun _ => y_nilCheck (ev_tv rfl rfl)) hS ?_
      intro hS
      refine D_pure (i := 14) (v := .pointer (some ⟨b12, o13 + 3, none⟩)) rfl (by kernel_rfl) (W_none rfl) (fun _ => Tryd.fa75_3 (ev_tv rfl rfl)) hS ?_
      intro hS
      refine D_only (i := 15) (by kernel_rfl) rfl ?_
      obtain ⟨hc17, hf18, H⟩ := H
      obtain ⟨w20, hw19⟩ : ∃ w20 : World, w20 = World.setCell w18 ⟨b12, o13 + 3, none⟩ (.slice x19 x19l x19c) := ⟨_, rfl⟩
      replace H := H w20 hw19
      refine O_skip (i := 15) rfl (W_none rfl) (y_store Tryd.type73 rfl rfl (ev_tv rfl rfl) (ev_tv rfl rfl) hc17 hf18 hw19) ?_
      refine and_keep (SS_off (by kernel_rfl) (SS_off (by kernel_rfl) SS_nil)) fun hS => ?_
      refine D_done (by kernel_rfl) ?_
      refine then_norm ?_
      refine hK11 _ _ ?_
      clear hK11
      refine c_seq ?_
      intro K20 hK20
      refine c_region ?_
      refine L_val (v := .int .i64 0) (y_assign ev_c) ?_
      refine l_nil ?_
      refine then_norm ?_
      refine hK20 _ _ ?_
      clear hK20
      refine c_ret ?_
      exact body_1 rfl (ev_tv rfl rfl) H
  · replace H := H.2 hb4
    have hq5 : Value.bool (x3) = Value.bool false := congrArg Value.bool hb4
    refine L_val (v := .bool true) (y_not_f (ev_tv rfl hq5)) ?_
    refine l_nil ?_
    refine then_norm ?_
    refine hK3 _ _ ?_
    clear hK3
    refine cond_t (ev_tv rfl rfl) ?_
    refine c_seq ?_
    intro K24 hK24
    refine c_region ?_
    refine L_val (v := .int .i64 6) (y_assign ev_c) ?_
    refine l_nil ?_
    refine then_norm ?_
    refine hK24 _ _ ?_
    clear hK24
    refine c_ret ?_
    refine then_ret ?_
    exact body_1 rfl (ev_tv rfl rfl) H

/-- slices.DeleteFunc[[]parapet/api.Name,parapet/api.Name] -/
def Vc38 (a_s1 : Option Addr) (a_s1l : Nat) (a_s1c : Nat) (a_del2 : Value) (w : World) (R : Ending → World → Prop) : Prop :=
  (Calls Tryd.prog 49 #[.slice a_s1 a_s1l a_s1c, a_del2] w fun e w4 => ∃ x3 : Int, e = .returned (.int .i64 x3) ∧ ((((x3 : Int) = (-1)) → R (.returned (.slice a_s1 a_s1l a_s1c)) w4) ∧ ((¬ ((x3 : Int) = (-1))) → (∃ J8 : Int → World → Prop, (∀ (v6 : Int) (w7 : World), J8 v6 w7 → ((0 : Int) ≤ v6 ∧ v6 ≤ ((a_s1l : Nat) : Int) ∧ ∀ a8 : Option Addr, a8 = subA a_s1 2 a_s1c (v6 : Int).toNat → (∃ w9 : World, (Builtin.clear_ #[51] 0 #[.slice a8 (a_s1l - (v6 : Int).toNat) (a_s1c - (v6 : Int).toNat)]).run Tryd.prog w7 = .ok (.tuple #[]) w9 ∧ ((0 : Int) ≤ v6 ∧ v6 ≤ ((a_s1c : Nat) : Int) ∧ ∀ a10 : Option Addr, a10 = a_s1 → R (.returned (.slice a10 ((v6 : Int).toNat) a_s1c)) w9)))) ∧ (∀ r11 : Int, r11 = IntKind.wrap .i64 (x3 + 1) → (∃ I26 : Nat → Int → Int → World → Prop, (∃ m, I26 m x3 r11 w4) ∧ ∀ (m14 : Nat) (v12 : Int) (v13 : Int) (w15 : World), I26 m14 v12 v13 w15 → ((((v13 : Int) < ((a_s1l : Nat) : Int)) → (∃ (b16 o17 : Nat), a_s1 = some ⟨b16, o17, none⟩ ∧ ((0 : Int) ≤ v13 ∧ v13 < ((a_s1l : Nat) : Int) ∧ (∃ x18 : Int, ∃ x19 : ByteArray, CellsAt w15 ⟨b16, o17 + (v13 : Int).toNat * 2, none⟩ [.int .i64 x18, .string x19] ∧ (∀ (b20 : Nat) (w21 : World), b20 = World.heapSize w15 → w21 = World.alloc w15 (.cells #[.int .i64 0, .string (⟨#[]⟩ : ByteArray)] 42) → ((∀ j, j < 2 → (World.cell? w21 (Addr.add ⟨b20, 0, none⟩ j)).isSome = true ∧ World.frozen? w21 (Addr.add ⟨b20, 0, none⟩ j) = false) ∧ ∀ w22 : World, w22 = putCells w21 ⟨b20, 0, none⟩ [.int .i64 x18, .string x19] 0 → (∃ x23 : Int, ∃ x24 : ByteArray, CellsAt w22 ⟨b20, 0, none⟩ [.int .i64 x23, .string x24] ∧ (Invoke Tryd.prog a_del2 #[.agg #[.int .i64 x23, .string x24]] w22 fun e w26 => ∃ x25 : Bool, e = .returned (.bool x25) ∧ (((x25 = true) → (∀ r28 : Int, r28 = IntKind.wrap .i64 (v13 + 1) → (∃ m29, m29 < m14 ∧ I26 m29 v12 r28 w26))) ∧ ((x25 = false) → (∃ x30 : Int, ∃ x31 : ByteArray, CellsAt w26 ⟨b20, 0, none⟩ [.int .i64 x30, .string x31] ∧ ((0 : Int) ≤ v12 ∧ v12 < ((a_s1l : Nat) : Int) ∧ ((∀ j, j < 2 → (World.cell? w26 (Addr.add ⟨b16, o17 + (v12 : Int).toNat * 2, none⟩ j)).isSome = true ∧ World.frozen? w26 (Addr.add ⟨b16, o17 + (v12 : Int).toNat * 2, none⟩ j) = false) ∧ ∀ w32 : World, w32 = putCells w26 ⟨b16, o17 + (v12 : Int).toNat * 2, none⟩ [.int .i64 x30, .string x31] 0 → (∀ r33 : Int, r33 = IntKind.wrap .i64 (v12 + 1) → (∀ r34 : Int, r34 = IntKind.wrap .i64 (v13 + 1) → (∃ m35, m35 < m14 ∧ I26 m35 r33 r34 w32)))))))))))))))) ∧ ((¬ ((v13 : Int) < ((a_s1l : Nat) : Int))) → J8 v12 w15))))))))

theorem vc38 {a_s1 : Option Addr} {a_s1l : Nat} {a_s1c : Nat} {a_del2 : Value} {w : World} {R : Ending → World → Prop} (H : Vc38 a_s1 a_s1l a_s1c a_del2 w R) : Calls Tryd.prog 38 #[.slice a_s1 a_s1l a_s1c, a_del2] w R := by
  unfold Vc38 at H
  refine calls_start [.slice a_s1 a_s1l a_s1c, a_del2] Tryd.func38 rfl Tryd.ntmps38 rfl ?_
  refine c_seq ?_
  intro K1 hK1
  refine c_region ?_
  refine L_val (v := .slice none 0 0) (y_assign ev_c) ?_
  refine l_nil ?_
  refine then_norm ?_
  refine hK1 _ _ ?_
  clear hK1
  refine c_seq ?_
  intro K2 hK2
  refine c_region ?_
  refine L_val (v := .slice a_s1 a_s1l a_s1c) (y_move (ev_tv rfl rfl)) ?_
  refine L_val (v := a_del2) (y_move (ev_tv rfl rfl)) ?_
  refine L_call (y_call Tryd.call49 (map_ev2 (ev_tv rfl rfl) (ev_tv rfl rfl)) ev_f) (Calls.mono H ?_)
  clear H
  rintro _ w4 ⟨x3, rfl, H⟩
  refine ⟨_, rfl, ?_⟩
  refine L_val (v := .int .i64 x3) (y_assign (ev_tv rfl rfl)) ?_
  refine l_nil ?_
  refine then_norm ?_
  refine hK2 _ _ ?_
  clear hK2
  refine c_seq ?_
  intro K3 hK3
  refine c_seq ?_
  intro K4 hK4
  refine c_region ?_
  refine L_val (v := .int .i64 x3) (y_move (ev_tv rfl rfl)) ?_
  refine L_val (v := .bool (decide ((x3 : Int) = (-1)))) (y_ieq (ev_tv rfl rfl) ev_c) ?_
  refine l_nil ?_
  refine then_norm ?_
  refine hK4 _ _ ?_
  clear hK4
  rcases (Decidable.em ((x3 : Int) = (-1))) with hb5 | hb5
  · replace H := H.1 hb5
    have hq6 : Value.bool (decide ((x3 : Int) = (-1))) = Value.bool true := congrArg Value.bool (decide_eq_true hb5)
    refine cond_t (ev_tv rfl hq6) ?_
    refine c_seq ?_
    intro K7 hK7
    refine c_region ?_
    refine L_val (v := .slice a_s1 a_s1l a_s1c) (y_move (ev_tv rfl rfl)) ?_
    refine L_val (v := .slice a_s1 a_s1l a_s1c) (y_assign (ev_tv rfl rfl)) ?_
    refine l_nil ?_
    refine then_norm ?_
    refine hK7 _ _ ?_
    clear hK7
    refine c_ret ?_
    refine then_ret ?_
    exact body_1 rfl (ev_tv rfl rfl) H
  · replace H := H.2 hb5
    have hq6 : Value.bool (decide ((x3 : Int) = (-1))) = Value.bool false := congrArg Value.bool (decide_eq_false hb5)
    refine cond_f (ev_tv rfl hq6) ?_
    refine c_skip ?_
    refine then_norm ?_
    refine hK3 _ _ ?_
    clear hK3
    obtain ⟨J8, hJ9, H⟩ := H
    refine c_seqJ [(5, 7), (14, 35)] (fun ff ww => ∃ (v6 : Int), ff 5 = (.int .i64 v6 : Value) ∧ J8 v6 ww) ?_ ?_
    · clear hJ9
      intro K13 hK13
      refine c_seq ?_
      intro K24 hK24
      refine c_region ?_
      refine L_val (v := .int .i64 x3) (y_move (ev_tv rfl rfl)) ?_
      obtain ⟨r11, hr25⟩ : ∃ r11 : Int, r11 = IntKind.wrap .i64 (x3 + 1) := ⟨_, rfl⟩
      replace H := H r11 hr25
      refine L_val (v := .int .i64 r11) (y_add (ev_tv rfl rfl) ev_c hr25) ?_
      refine L_val (v := .int .i64 r11) (y_assign (ev_tv rfl rfl)) ?_
      refine l_nil ?_
      refine then_norm ?_
      refine hK24 _ _ ?_
      clear hK24
      refine c_block ?_
      obtain ⟨I26, ⟨m30, HI31⟩, H⟩ := H
      refine loop_fr ([(5, 7), (16, 35)]) (fun m ff ww => ∃ (v12 : Int) (v13 : Int), ff 5 = (.int .i64 v12 : Value) ∧ ff 6 = (.int .i64 v13 : Value) ∧ I26 m v12 v13 ww) m30 ⟨x3, r11, rfl, rfl, HI31⟩ ?_
      rintro m14 f27 w15 hag28 ⟨v12, v13, hs32, hs33, HI29⟩
      replace H := H m14 v12 v13 w15 HI29
      refine c_seq ?_
      intro K34 hK34
      refine c_seq ?_
      intro K35 hK35
      refine c_region ?_
      refine L_val (v := .int .i64 v13) (y_move (ev_tv rfl hs33)) ?_
      refine L_val (v := .slice a_s1 a_s1l a_s1c) (y_move (ev_tv rfl ((hag28 0 rfl).trans rfl))) ?_
      refine L_val (v := .int .i64 ((a_s1l : Nat) : Int)) (y_len Tryd.underlying51 rfl (map_ev1 (ev_tv rfl rfl))) ?_
      refine L_val (v := .bool (decide ((v13 : Int) < ((a_s1l : Nat) : Int)))) (y_lss (ev_tv rfl rfl) (ev_tv rfl rfl)) ?_
      refine l_nil ?_
      refine then_norm ?_
      refine hK35 _ _ ?_
      clear hK35
      rcases (Decidable.em ((v13 : Int) < ((a_s1l : Nat) : Int))) with hb36 | hb36
      · replace H := H.1 hb36
        have hq37 : Value.bool (decide ((v13 : Int) < ((a_s1l : Nat) : Int))) = Value.bool true := congrArg Value.bool (decide_eq_true hb36)
        refine cond_t (ev_tv rfl hq37) ?_
        refine c_skip ?_
        refine then_norm ?_
        refine hK34 _ _ ?_
        clear hK34
        refine c_seq ?_
        intro K38 hK38
        refine c_block ?_
        refine c_seq ?_
        intro K39 hK39
        refine c_region ?_
        refine L_val (v := .slice a_s1 a_s1l a_s1c) (y_move (ev_tv rfl ((hag28 0 rfl).trans rfl))) ?_
        refine L_val (v := .int .i64 v13) (y_move (ev_tv rfl hs33)) ?_
        obtain ⟨b16, o17, rfl, H⟩ := H
        obtain ⟨hi40, hi41, H⟩ := H
        refine L_val (v := .pointer (some ⟨b16, o17 + (v13 : Int).toNat * 2, none⟩)) (y_ix Tryd.underlying51 Tryd.type42 rfl (ev_tv rfl rfl) (ev_tv rfl rfl) hi40 hi41) ?_
        obtain ⟨x18, x19, hc42, H⟩ := H
        refine L_val (v := .agg #[.int .i64 x18, .string x19]) (y_loadAgg Tryd.underlying42 rfl Tryd.type42 rfl (ev_tv rfl rfl) hc42) ?_
        obtain ⟨b20, hb43⟩ : ∃ b20 : Nat, b20 = World.heapSize w15 := ⟨_, rfl⟩
        obtain ⟨w21, hw44⟩ : ∃ w21 : World, w21 = World.alloc w15 (.cells #[.int .i64 0, .string (⟨#[]⟩ : ByteArray)] 42) := ⟨_, rfl⟩
        replace H := H b20 w21 hb43 hw44
        refine L_val (v := .pointer (some ⟨b20, 0, none⟩)) (y_alloc Tryd.type42 rfl rfl hb43 hw44) ?_
        obtain ⟨hc45, H⟩ := H
        obtain ⟨w22, hw47⟩ : ∃ w22 : World, w22 = putCells w21 ⟨b20, 0, none⟩ [.int .i64 x18, .string x19] 0 := ⟨_, rfl⟩
        replace H := H w22 hw47
        refine L_skip (y_storeAgg Tryd.type42 rfl (by intro v hv; simp only [List.mem_cons, List.not_mem_nil, or_false] at hv; rcases hv with rfl | rfl <;> rfl) (ev_tv rfl rfl) (ev_tv rfl rfl) hc45 hw47) ?_
        refine l_nil ?_
        refine then_norm ?_
        refine hK39 _ _ ?_
        clear hK39
        refine c_seq ?_
        intro K48 hK48
        refine c_region ?_
        refine L_val (v := a_del2) (y_move (ev_tv rfl ((hag28 1 rfl).trans rfl))) ?_
        obtain ⟨x23, x24, hc49, H⟩ := H
        refine L_val (v := .agg #[.int .i64 x23, .string x24]) (y_loadAgg Tryd.underlying42 rfl Tryd.type42 rfl (ev_tv rfl rfl) hc49) ?_
        obtain ⟨khk64, firsthk64, caphk64, hi65, hk64, H⟩ := H
        refine L_call (y_callv hk64 (map_ev1 (ev_tv rfl rfl)) ((ev_tv rfl rfl).trans hi65)) (Calls.mono H ?_)
        clear H
        rintro _ w26 ⟨x25, rfl, H⟩
        refine ⟨_, rfl, ?_⟩
        rcases Bool.eq_false_or_eq_true x25 with hb50 | hb50
        · replace H := H.1 hb50
          have hq51 : Value.bool (x25) = Value.bool true := congrArg Value.bool hb50
          refine L_val (v := .bool false) (y_not_t (ev_tv rfl hq51)) ?_
          refine l_nil ?_
          refine then_norm ?_
          refine hK48 _ _ ?_
          clear hK48
          refine cond_f (ev_tv rfl rfl) ?_
          refine c_skip ?_
          refine block_norm ?_
          refine then_norm ?_
          refine hK38 _ _ ?_
          clear hK38
          refine c_region ?_
          refine L_val (v := .int .i64 v13) (y_move (ev_tv rfl hs33)) ?_
          obtain ⟨r28, hr52⟩ : ∃ r28 : Int, r28 = IntKind.wrap .i64 (v13 + 1) := ⟨_, rfl⟩
          replace H := H r28 hr52
          refine L_val (v := .int .i64 r28) (y_add (ev_tv rfl rfl) ev_c hr52) ?_
          refine L_val (v := .int .i64 r28) (y_assign (ev_tv rfl rfl)) ?_
          refine l_nil ?_
          refine then_norm ?_
          obtain ⟨m29, hm53, H⟩ := H
          exact ⟨_, rfl, (by repeat (first | exact agree_refl | exact hag28 | refine agree_upd rfl ?_ | refine agree_via hag28 rfl ?_)), m29, hm53, _, _, hs32, rfl, H⟩
        · replace H := H.2 hb50
          have hq51 : Value.bool (x25) = Value.bool false := congrArg Value.bool hb50
          refine L_val (v := .bool true) (y_not_f (ev_tv rfl hq51)) ?_
          refine l_nil ?_
          refine then_norm ?_
          refine hK48 _ _ ?_
          clear hK48
          refine cond_t (ev_tv rfl rfl) ?_
          refine c_seq ?_
          intro K54 hK54
          refine c_region ?_
          refine L_val (v := .slice (some ⟨b16, o17, none⟩) a_s1l a_s1c) (y_move (ev_tv rfl ((hag28 0 rfl).trans rfl))) ?_
          refine L_val (v := .int .i64 v12) (y_move (ev_tv rfl hs32)) ?_
          obtain ⟨x30, x31, hc55, H⟩ := H
          refine L_val (v := .agg #[.int .i64 x30, .string x31]) (y_loadAgg Tryd.underlying42 rfl Tryd.type42 rfl (ev_tv rfl rfl) hc55) ?_
          obtain ⟨hi56, hi57, H⟩ := H
          refine L_val (v := .pointer (some ⟨b16, o17 + (v12 : Int).toNat * 2, none⟩)) (y_ix Tryd.underlying51 Tryd.type42 rfl (ev_tv rfl rfl) (ev_tv rfl rfl) hi56 hi57) ?_
          obtain ⟨hc58, H⟩ := H
          obtain ⟨w32, hw60⟩ : ∃ w32 : World, w32 = putCells w26 ⟨b16, o17 + (v12 : Int).toNat * 2, none⟩ [.int .i64 x30, .string x31] 0 := ⟨_, rfl⟩
          replace H := H w32 hw60
          refine L_skip (y_storeAgg Tryd.type42 rfl (by intro v hv; simp only [List.mem_cons, List.not_mem_nil, or_false] at hv; rcases hv with rfl | rfl <;> rfl) (ev_tv rfl rfl) (ev_tv rfl rfl) hc58 hw60) ?_
          refine l_nil ?_
          refine then_norm ?_
          refine hK54 _ _ ?_
          clear hK54
          refine c_region ?_
          refine L_val (v := .int .i64 v12) (y_move (ev_tv rfl hs32)) ?_
          obtain ⟨r33, hr61⟩ : ∃ r33 : Int, r33 = IntKind.wrap .i64 (v12 + 1) := ⟨_, rfl⟩
          replace H := H r33 hr61
          refine L_val (v := .int .i64 r33) (y_add (ev_tv rfl rfl) ev_c hr61) ?_
          refine L_val (v := .int .i64 r33) (y_assign (ev_tv rfl rfl)) ?_
          refine l_nil ?_
          refine block_norm ?_
          refine then_norm ?_
          refine hK38 _ _ ?_
          clear hK38
          refine c_region ?_
          refine L_val (v := .int .i64 v13) (y_move (ev_tv rfl hs33)) ?_
          obtain ⟨r34, hr62⟩ : ∃ r34 : Int, r34 = IntKind.wrap .i64 (v13 + 1) := ⟨_, rfl⟩
          replace H := H r34 hr62
          refine L_val (v := .int .i64 r34) (y_add (ev_tv rfl rfl) ev_c hr62) ?_
          refine L_val (v := .int .i64 r34) (y_assign (ev_tv rfl rfl)) ?_
          refine l_nil ?_
          refine then_norm ?_
          obtain ⟨m35, hm63, H⟩ := H
          exact ⟨_, rfl, (by repeat (first | exact agree_refl | exact hag28 | refine agree_upd rfl ?_ | refine agree_via hag28 rfl ?_)), m35, hm63, _, _, rfl, rfl, H⟩
      · replace H := H.2 hb36
        have hq37 : Value.bool (decide ((v13 : Int) < ((a_s1l : Nat) : Int))) = Value.bool false := congrArg Value.bool (decide_eq_false hb36)
        refine cond_f (ev_tv rfl hq37) ?_
        refine c_exit ?_
        refine then_exit ?_
        refine then_exit ?_
        refine block_hit ?_
        refine then_norm ?_
        exact hK13 _ _ (by repeat (first | exact agree_refl | exact hag28 | refine agree_upd rfl ?_ | refine agree_via hag28 rfl ?_)) ⟨_, hs32, H⟩
    · clear H
      rintro f10 w7 hag11 ⟨v6, hs14, HJ12⟩
      have H := hJ9 v6 w7 HJ12
      clear hJ9
      refine c_seq ?_
      intro K15 hK15
      refine c_region ?_
      refine L_val (v := .slice a_s1 a_s1l a_s1c) (y_move (ev_tv rfl ((hag11 0 rfl).trans rfl))) ?_
      refine L_val (v := .int .i64 v6) (y_move (ev_tv rfl hs14)) ?_
      obtain ⟨hi17, hi18, H⟩ := H
      obtain ⟨a8, ha16⟩ : ∃ a8 : Option Addr, a8 = subA a_s1 2 a_s1c (v6 : Int).toNat := ⟨_, rfl⟩
      replace H := H a8 ha16
      refine L_val (v := .slice a8 (a_s1l - (v6 : Int).toNat) (a_s1c - (v6 : Int).toNat)) (y_sliceL Tryd.underlying51 Tryd.type42 rfl (ev_tv rfl rfl) (ev_tv rfl rfl) hi17 hi18 ha16) ?_
      obtain ⟨w9, hc19, H⟩ := H
      refine L_valn (v := .tuple #[]) (y_bi_clear (map_ev1 (ev_tv rfl rfl)) hc19) ?_
      refine l_nil ?_
      refine then_norm ?_
      refine hK15 _ _ ?_
      clear hK15
      refine c_seq ?_
      intro K20 hK20
      refine c_region ?_
      refine L_val (v := .slice a_s1 a_s1l a_s1c) (y_move (ev_tv rfl ((hag11 0 rfl).trans rfl))) ?_
      refine L_val (v := .int .i64 v6) (y_move (ev_tv rfl hs14)) ?_
      obtain ⟨hi22, hi23, H⟩ := H
      obtain ⟨a10, ha21⟩ : ∃ a10 : Option Addr, a10 = a_s1 := ⟨_, rfl⟩
      replace H := H a10 ha21
      refine L_val (v := .slice a10 ((v6 : Int).toNat) a_s1c) (y_sliceH Tryd.underlying51 Tryd.type42 (ev_tv rfl rfl) (ev_tv rfl rfl) hi22 hi23 ha21) ?_
      refine L_val (v := .slice a10 ((v6 : Int).toNat) a_s1c) (y_assign (ev_tv rfl rfl)) ?_
      refine l_nil ?_
      refine then_norm ?_
      refine hK20 _ _ ?_
      clear hK20
      refine c_ret ?_
      exact body_1 rfl (ev_tv rfl rfl) H

/-- (parapet/namec.Cache).Forget$1 -/
def Vc39 (a_o1 : Int) (a_o2 : ByteArray) (fv3 : Option Addr) (w : World) (R : Ending → World → Prop) : Prop :=
  (∀ (b4 : Nat) (w5 : World), b4 = World.heapSize w → w5 = World.alloc w (.cells #[.int .i64 a_o1, .string a_o2] 42) → (∃ x6 : Int, ∃ x7 : ByteArray, CellsAt w5 ⟨b4, 0, none⟩ [.int .i64 x6, .string x7] ∧ (∃ (b8 o9 : Nat), fv3 = some ⟨b8, o9, none⟩ ∧ (∃ x10 : Int, ∃ x11 : ByteArray, CellsAt w5 ⟨b8, o9, none⟩ [.int .i64 x10, .string x11] ∧ (∃ q12 : Bool, (∀ w' : World, (eqGuard .eql 42 (.tmp 4) (.tmp 5) (.agg #[.int .i64 x6, .string x7]) (.agg #[.int .i64 x10, .string x11])).run Tryd.prog w' = .ok () w') ∧ (∀ w' : World, (binOp .eql 42 (.agg #[.int .i64 x6, .string x7]) (.agg #[.int .i64 x10, .string x11])).run Tryd.prog w' = .ok (.bool q12) w') ∧ R (.returned (.bool q12)) w5)))))

theorem vc39 {a_o1 : Int} {a_o2 : ByteArray} {fv3 : Option Addr} {w : World} {R : Ending → World → Prop} (H : Vc39 a_o1 a_o2 fv3 w R) : Calls Tryd.prog 39 #[.agg #[.int .i64 a_o1, .string a_o2], .pointer fv3] w R := by
  unfold Vc39 at H
  refine calls_start [.agg #[.int .i64 a_o1, .string a_o2], .pointer fv3] Tryd.func39 rfl Tryd.ntmps39 rfl ?_
  refine c_seq ?_
  intro K1 hK1
  refine c_region ?_
  obtain ⟨b4, hb2⟩ : ∃ b4 : Nat, b4 = World.heapSize w := ⟨_, rfl⟩
  obtain ⟨w5, hw3⟩ : ∃ w5 : World, w5 = World.alloc w (.cells #[.int .i64 a_o1, .string a_o2] 42) := ⟨_, rfl⟩
  replace H := H b4 w5 hb2 hw3
  refine L_val (v := .pointer (some ⟨b4, 0, none⟩)) (y_box (ev_tv rfl rfl) rfl hb2 hw3) ?_
  refine L_val (v := .bool false) (y_assign ev_c) ?_
  refine l_nil ?_
  refine then_norm ?_
  refine hK1 _ _ ?_
  clear hK1
  refine c_seq ?_
  intro K4 hK4
  refine c_region ?_
  obtain ⟨x6, x7, hc5, H⟩ := H
  refine L_val (v := .agg #[.int .i64 x6, .string x7]) (y_loadAgg Tryd.underlying42 rfl Tryd.type42 rfl (ev_tv rfl rfl) hc5) ?_
  obtain ⟨b8, o9, rfl, H⟩ := H
  obtain ⟨x10, x11, hc6, H⟩ := H
  refine L_val (v := .agg #[.int .i64 x10, .string x11]) (y_loadAgg Tryd.underlying42 rfl Tryd.type42 rfl (ev_tv rfl rfl) hc6) ?_
  obtain ⟨q12, hg8, hc7, H⟩ := H
  refine L_val (v := .bool q12) (y_eqv (ev_tv rfl rfl) (ev_tv rfl rfl) (hg8 _) (hc7 _)) ?_
  refine L_val (v := .bool q12) (y_assign (ev_tv rfl rfl)) ?_
  refine l_nil ?_
  refine then_norm ?_
  refine hK4 _ _ ?_
  clear hK4
  refine c_ret ?_
  exact body_1 rfl (ev_tv rfl rfl) H

/-- (parapet/rcu.Domain).made -/
def Vc40 (a_d1 : Option Addr) (w : World) (R : Ending → World → Prop) : Prop :=
  (((a_d1 ≠ none) → (∃ (b2 o3 : Nat), a_d1 = some ⟨b2, o3, none⟩ ∧ (∃ x4 : Option Addr, ∃ x4l : Nat, ∃ x4c : Nat, World.cell? w ⟨b2, o3, none⟩ = some (.slice x4 x4l x4c) ∧ R (.returned (.bool (decide ((0 : Int) < ((x4l : Nat) : Int))))) w))) ∧ ((a_d1 = none) → R (.returned (.bool false)) w))

theorem vc40 {a_d1 : Option Addr} {w : World} {R : Ending → World → Prop} (H : Vc40 a_d1 w R) : Calls Tryd.prog 40 #[.pointer a_d1] w R := by
  unfold Vc40 at H
  refine calls_start [.pointer a_d1] Tryd.func40 rfl Tryd.ntmps40 rfl ?_
  refine c_seq ?_
  intro K1 hK1
  refine c_region ?_
  refine L_val (v := .bool false) (y_assign ev_c) ?_
  refine l_nil ?_
  refine then_norm ?_
  refine hK1 _ _ ?_
  clear hK1
  refine c_seq ?_
  intro K2 hK2
  refine c_region ?_
  refine L_val (v := .pointer a_d1) (y_move (ev_tv rfl rfl)) ?_
  refine L_val (v := .bool (!a_d1.isNone)) (y_pne Tryd.underlying30 (ev_tv rfl rfl) ev_c) ?_
  refine L_val (v := .bool (!a_d1.isNone)) (y_move (ev_tv rfl rfl)) ?_
  rcases (Classical.em (a_d1 ≠ none)) with hb3 | hb3
  · replace H := H.1 hb3
    have hq4 : Value.bool (!a_d1.isNone) = Value.bool true := congrArg Value.bool (nisn_t hb3)
    refine G_val (dj := 5) rfl rfl hq4 (v := .pointer a_d1) (y_move (ev_tv rfl rfl)) ?_
    obtain ⟨b2, o3, rfl, H⟩ := H
    refine G_val (dj := 5) rfl rfl hq4 (v := .pointer (some ⟨b2, o3, none⟩)) (y_nilCheck (ev_tv rfl rfl)) ?_
    refine G_val (dj := 5) rfl rfl hq4 (v := .pointer (some ⟨b2, o3, none⟩)) (Tryd.fa75_0 (ev_tv rfl rfl)) ?_
    obtain ⟨x4, x4l, x4c, hc5, H⟩ := H
    refine G_val (dj := 5) rfl rfl hq4 (v := .slice x4 x4l x4c) (y_load Tryd.underlying38 rfl (ev_tv rfl rfl) hc5) ?_
    refine G_val (dj := 5) rfl rfl hq4 (v := .int .i64 ((x4l : Nat) : Int)) (y_len Tryd.underlying38 rfl (map_ev1 (ev_tv rfl rfl))) ?_
    refine G_val (dj := 5) rfl rfl hq4 (v := .bool (decide ((0 : Int) < ((x4l : Nat) : Int)))) (y_gtr (ev_tv rfl rfl) ev_c) ?_
    refine L_val (v := .bool (decide ((0 : Int) < ((x4l : Nat) : Int)))) (y_pick_t (ev_tv rfl hq4) (ev_tv rfl rfl)) ?_
    refine L_val (v := .bool (decide ((0 : Int) < ((x4l : Nat) : Int)))) (y_assign (ev_tv rfl rfl)) ?_
    refine l_nil ?_
    refine then_norm ?_
    refine hK2 _ _ ?_
    clear hK2
    refine c_ret ?_
    exact body_1 rfl (ev_tv rfl rfl) H
  · replace hb3 : a_d1 = none := Classical.not_not.1 hb3
    replace H := H.2 hb3
    have hq4 : Value.bool (!a_d1.isNone) = Value.bool false := congrArg Value.bool (nisn_f hb3)
    refine G_not (b' := false) (dj := 5) rfl rfl hq4 rfl ?_
    refine G_not (b' := false) (dj := 5) rfl rfl hq4 rfl ?_
    refine G_not (b' := false) (dj := 5) rfl rfl hq4 rfl ?_
    refine G_not (b' := false) (dj := 5) rfl rfl hq4 rfl ?_
    refine G_not (b' := false) (dj := 5) rfl rfl hq4 rfl ?_
    refine G_not (b' := false) (dj := 5) rfl rfl hq4 rfl ?_
    refine L_val (v := .bool false) (y_pick_f (ev_tv rfl hq4) ev_c) ?_
    refine L_val (v := .bool false) (y_assign (ev_tv rfl rfl)) ?_
    refine l_nil ?_
    refine then_norm ?_
    refine hK2 _ _ ?_
    clear hK2
    refine c_ret ?_
    exact body_1 rfl (ev_tv rfl rfl) H

/-- slices.Clone[[]parapet/api.Name,parapet/api.Name] -/
def Vc41 (a_s1 : Option Addr) (a_s1l : Nat) (a_s1c : Nat) (w : World) (R : Ending → World → Prop) : Prop :=
  (((a_s1 = none) → R (.returned (.slice none 0 0)) w) ∧ ((a_s1 ≠ none) → (∀ (b2 : Nat) (w3 : World), b2 = World.heapSize w → w3 = World.alloc w (.cells #[] 42) → (∃ x5 : Option Addr, ∃ x5l : Nat, ∃ x5c : Nat, ∃ w4 : World, (Builtin.append_ #[51, 51] 51 #[.slice (some ⟨b2, 0, none⟩) 0 0, .slice a_s1 a_s1l a_s1c]).run Tryd.prog w3 = .ok (.slice x5 x5l x5c) w4 ∧ R (.returned (.slice x5 x5l x5c)) w4))))

theorem vc41 {a_s1 : Option Addr} {a_s1l : Nat} {a_s1c : Nat} {w : World} {R : Ending → World → Prop} (H : Vc41 a_s1 a_s1l a_s1c w R) : Calls Tryd.prog 41 #[.slice a_s1 a_s1l a_s1c] w R := by
  unfold Vc41 at H
  refine calls_start [.slice a_s1 a_s1l a_s1c] Tryd.func41 rfl Tryd.ntmps41 rfl ?_
  refine c_seq ?_
  intro K1 hK1
  refine c_region ?_
  refine L_val (v := .slice none 0 0) (y_assign ev_c) ?_
  refine l_nil ?_
  refine then_norm ?_
  refine hK1 _ _ ?_
  clear hK1
  refine c_seq ?_
  intro K2 hK2
  refine c_seq ?_
  intro K3 hK3
  refine c_region ?_
  refine L_val (v := .slice a_s1 a_s1l a_s1c) (y_move (ev_tv rfl rfl)) ?_
  refine L_val (v := .bool (a_s1.isNone)) (y_sleq Tryd.underlying51 (ev_tv rfl rfl) ev_c) ?_
  refine l_nil ?_
  refine then_norm ?_
  refine hK3 _ _ ?_
  clear hK3
  rcases (Classical.em (a_s1 = none)) with hb4 | hb4
  · replace H := H.1 hb4
    have hq5 : Value.bool (a_s1.isNone) = Value.bool true := congrArg Value.bool (isn_t hb4)
    refine cond_t (ev_tv rfl hq5) ?_
    refine c_seq ?_
    intro K6 hK6
    refine c_region ?_
    refine L_val (v := .slice none 0 0) (y_assign ev_c) ?_
    refine l_nil ?_
    refine then_norm ?_
    refine hK6 _ _ ?_
    clear hK6
    refine c_ret ?_
    refine then_ret ?_
    exact body_1 rfl (ev_tv rfl rfl) H
  · replace H := H.2 hb4
    have hq5 : Value.bool (a_s1.isNone) = Value.bool false := congrArg Value.bool (isn_f hb4)
    refine cond_f (ev_tv rfl hq5) ?_
    refine c_skip ?_
    refine then_norm ?_
    refine hK2 _ _ ?_
    clear hK2
    refine c_seq ?_
    intro K7 hK7
    refine c_region ?_
    obtain ⟨b2, hb8⟩ : ∃ b2 : Nat, b2 = World.heapSize w := ⟨_, rfl⟩
    obtain ⟨w3, hw9⟩ : ∃ w3 : World, w3 = World.alloc w (.cells #[] 42) := ⟨_, rfl⟩
    replace H := H b2 w3 hb8 hw9
    refine L_val (v := .slice (some ⟨b2, 0, none⟩) 0 0) (y_buildSlice rfl hb8 hw9 (by kernel_rfl)) ?_
    refine L_val (v := .slice a_s1 a_s1l a_s1c) (y_move (ev_tv rfl rfl)) ?_
    obtain ⟨x5, x5l, x5c, w4, hc10, H⟩ := H
    refine L_val (v := .slice x5 x5l x5c) (y_bi_append (map_ev2 (ev_tv rfl rfl) (ev_tv rfl rfl)) hc10) ?_
    refine L_val (v := .slice x5 x5l x5c) (y_assign (ev_tv rfl rfl)) ?_
    refine l_nil ?_
    refine then_norm ?_
    refine hK7 _ _ ?_
    clear hK7
    refine c_ret ?_
    exact body_1 rfl (ev_tv rfl rfl) H

/-- (parapet/rcu.Domain).is -/
def Vc42 (a_d1 : Option Addr) (a_h2 : Int) (w : World) (R : Ending → World → Prop) : Prop :=
  (Calls Tryd.prog 40 #[.pointer a_d1] w fun e w4 => ∃ x3 : Bool, e = .returned (.bool x3) ∧ (((x3 = true) → ((((0 : Int) ≤ a_h2) → (∃ (b6 o7 : Nat), a_d1 = some ⟨b6, o7, none⟩ ∧ (∃ x8 : Option Addr, ∃ x8l : Nat, ∃ x8c : Nat, World.cell? w4 ⟨b6, o7, none⟩ = some (.slice x8 x8l x8c) ∧ R (.returned (.bool (decide ((a_h2 : Int) < ((x8l : Nat) : Int))))) w4))) ∧ ((¬ ((0 : Int) ≤ a_h2)) → R (.returned (.bool false)) w4))) ∧ ((x3 = false) → R (.returned (.bool false)) w4)))

theorem vc42 {a_d1 : Option Addr} {a_h2 : Int} {w : World} {R : Ending → World → Prop} (H : Vc42 a_d1 a_h2 w R) : Calls Tryd.prog 42 #[.pointer a_d1, .int .i64 a_h2] w R := by
  unfold Vc42 at H
  refine calls_start [.pointer a_d1, .int .i64 a_h2] Tryd.func42 rfl Tryd.ntmps42 rfl ?_
  refine c_seq ?_
  intro K1 hK1
  refine c_region ?_
  refine L_val (v := .bool false) (y_assign ev_c) ?_
  refine l_nil ?_
  refine then_norm ?_
  refine hK1 _ _ ?_
  clear hK1
  refine c_seq ?_
  intro K2 hK2
  refine c_region ?_
  refine L_val (v := .pointer a_d1) (y_move (ev_tv rfl rfl)) ?_
  refine L_call (y_call Tryd.call40 (map_ev1 (ev_tv rfl rfl)) ev_f) (Calls.mono H ?_)
  clear H
  rintro _ w4 ⟨x3, rfl, H⟩
  refine ⟨_, rfl, ?_⟩
  refine L_val (v := .bool x3) (y_move (ev_tv rfl rfl)) ?_
  rcases Bool.eq_false_or_eq_true x3 with hb3 | hb3
  · replace H := H.1 hb3
    have hq4 : Value.bool (x3) = Value.bool true := congrArg Value.bool hb3
    refine G_val (dj := 7) rfl rfl hq4 (v := .int .i64 a_h2) (y_move (ev_tv rfl rfl)) ?_
    refine G_val (dj := 7) rfl rfl hq4 (v := .bool (decide ((0 : Int) ≤ a_h2))) (y_geq (ev_tv rfl rfl) ev_c) ?_
    refine L_val (v := .bool (decide ((0 : Int) ≤ a_h2))) (y_pick_t (ev_tv rfl hq4) (ev_tv rfl rfl)) ?_
    refine L_val (v := .bool (decide ((0 : Int) ≤ a_h2))) (y_move (ev_tv rfl rfl)) ?_
    rcases (Decidable.em ((0 : Int) ≤ a_h2)) with hb5 | hb5
    · replace H := H.1 hb5
      have hq6 : Value.bool (decide ((0 : Int) ≤ a_h2)) = Value.bool true := congrArg Value.bool (decide_eq_true hb5)
      refine G_val (dj := 11) rfl rfl hq6 (v := .int .i64 a_h2) (y_move (ev_tv rfl rfl)) ?_
      refine G_val (dj := 11) rfl rfl hq6 (v := .pointer a_d1) (y_move (ev_tv rfl rfl)) ?_
      obtain ⟨b6, o7, rfl, H⟩ := H
      refine G_val (dj := 11) rfl rfl hq6 (v := .pointer (some ⟨b6, o7, none⟩)) (y_nilCheck (ev_tv rfl rfl)) ?_
      refine G_val (dj := 11) rfl rfl hq6 (v := .pointer (some ⟨b6, o7, none⟩)) (Tryd.fa75_0 (ev_tv rfl rfl)) ?_
      obtain ⟨x8, x8l, x8c, hc7, H⟩ := H
      refine G_val (dj := 11) rfl rfl hq6 (v := .slice x8 x8l x8c) (y_load Tryd.underlying38 rfl (ev_tv rfl rfl) hc7) ?_
      refine G_val (dj := 11) rfl rfl hq6 (v := .int .i64 ((x8l : Nat) : Int)) (y_len Tryd.underlying38 rfl (map_ev1 (ev_tv rfl rfl))) ?_
      refine G_val (dj := 11) rfl rfl hq6 (v := .bool (decide ((a_h2 : Int) < ((x8l : Nat) : Int)))) (y_lss (ev_tv rfl rfl) (ev_tv rfl rfl)) ?_
      refine L_val (v := .bool (decide ((a_h2 : Int) < ((x8l : Nat) : Int)))) (y_pick_t (ev_tv rfl hq6) (ev_tv rfl rfl)) ?_
      refine L_val (v := .bool (decide ((a_h2 : Int) < ((x8l : Nat) : Int)))) (y_assign (ev_tv rfl rfl)) ?_
      refine l_nil ?_
      refine then_norm ?_
      refine hK2 _ _ ?_
      clear hK2
      refine c_ret ?_
      exact body_1 rfl (ev_tv rfl rfl) H
    · replace H := H.2 hb5
      have hq6 : Value.bool (decide ((0 : Int) ≤ a_h2)) = Value.bool false := congrArg Value.bool (decide_eq_false hb5)
      refine G_not (b' := false) (dj := 11) rfl rfl hq6 rfl ?_
      refine G_not (b' := false) (dj := 11) rfl rfl hq6 rfl ?_
      refine G_not (b' := false) (dj := 11) rfl rfl hq6 rfl ?_
      refine G_not (b' := false) (dj := 11) rfl rfl hq6 rfl ?_
      refine G_not (b' := false) (dj := 11) rfl rfl hq6 rfl ?_
      refine G_not (b' := false) (dj := 11) rfl rfl hq6 rfl ?_
      refine G_not (b' := false) (dj := 11) rfl rfl hq6 rfl ?_
      refine L_val (v := .bool false) (y_pick_f (ev_tv rfl hq6) ev_c) ?_
      refine L_val (v := .bool false) (y_assign (ev_tv rfl rfl)) ?_
      refine l_nil ?_
      refine then_norm ?_
      refine hK2 _ _ ?_
      clear hK2
      refine c_ret ?_
      exact body_1 rfl (ev_tv rfl rfl) H
  · replace H := H.2 hb3
    have hq4 : Value.bool (x3) = Value.bool false := congrArg Value.bool hb3
    refine G_not (b' := false) (dj := 7) rfl rfl hq4 rfl ?_
    refine G_not (b' := false) (dj := 7) rfl rfl hq4 rfl ?_
    refine L_val (v := .bool false) (y_pick_f (ev_tv rfl hq4) ev_c) ?_
    refine L_val (v := .bool false) (y_move (ev_tv rfl rfl)) ?_
    refine G_not (b' := false) (dj := 11) rfl rfl rfl rfl ?_
    refine G_not (b' := false) (dj := 11) rfl rfl rfl rfl ?_
    refine G_not (b' := false) (dj := 11) rfl rfl rfl rfl ?_
    refine G_not (b' := false) (dj := 11) rfl rfl rfl rfl ?_
    refine G_not (b' := false) (dj := 11) rfl rfl rfl rfl ?_
    refine G_not (b' := false) (dj := 11) rfl rfl rfl rfl ?_
    refine G_not (b' := false) (dj := 11) rfl rfl rfl rfl ?_
    refine L_val (v := .bool false) (y_pick_f (ev_tv rfl rfl) ev_c) ?_
    refine L_val (v := .bool false) (y_assign (ev_tv rfl rfl)) ?_
    refine l_nil ?_
    refine then_norm ?_
    refine hK2 _ _ ?_
    clear hK2
    refine c_ret ?_
    exact body_1 rfl (ev_tv rfl rfl) H

/-- slices.Contains[[]int,int] -/
def Vc48 (a_s1 : Option Addr) (a_s1l : Nat) (a_s1c : Nat) (a_v2 : Int) (w : World) (R : Ending → World → Prop) : Prop :=
  (Calls Tryd.prog 61 #[.slice a_s1 a_s1l a_s1c, .int .i64 a_v2] w fun e w4 => ∃ x3 : Int, e = .returned (.int .i64 x3) ∧ R (.returned (.bool (decide ((0 : Int) ≤ x3)))) w4)

theorem vc48 {a_s1 : Option Addr} {a_s1l : Nat} {a_s1c : Nat} {a_v2 : Int} {w : World} {R : Ending → World → Prop} (H : Vc48 a_s1 a_s1l a_s1c a_v2 w R) : Calls Tryd.prog 48 #[.slice a_s1 a_s1l a_s1c, .int .i64 a_v2] w R := by
  unfold Vc48 at H
  refine calls_start [.slice a_s1 a_s1l a_s1c, .int .i64 a_v2] Tryd.func48 rfl Tryd.ntmps48 rfl ?_
  refine c_seq ?_
  intro K1 hK1
  refine c_region ?_
  refine L_val (v := .bool false) (y_assign ev_c) ?_
  refine l_nil ?_
  refine then_norm ?_
  refine hK1 _ _ ?_
  clear hK1
  refine c_seq ?_
  intro K2 hK2
  refine c_region ?_
  refine L_val (v := .slice a_s1 a_s1l a_s1c) (y_move (ev_tv rfl rfl)) ?_
  refine L_val (v := .int .i64 a_v2) (y_move (ev_tv rfl rfl)) ?_
  refine L_call (y_call Tryd.call61 (map_ev2 (ev_tv rfl rfl) (ev_tv rfl rfl)) ev_f) (Calls.mono H ?_)
  clear H
  rintro _ w4 ⟨x3, rfl, H⟩
  refine ⟨_, rfl, ?_⟩
  refine L_val (v := .bool (decide ((0 : Int) ≤ x3))) (y_geq (ev_tv rfl rfl) ev_c) ?_
  refine L_val (v := .bool (decide ((0 : Int) ≤ x3))) (y_assign (ev_tv rfl rfl)) ?_
  refine l_nil ?_
  refine then_norm ?_
  refine hK2 _ _ ?_
  clear hK2
  refine c_ret ?_
  exact body_1 rfl (ev_tv rfl rfl) H

/-- slices.IndexFunc[[]parapet/api.Name,parapet/api.Name] -/
def Vc49 (a_s1 : Option Addr) (a_s1l : Nat) (a_s1c : Nat) (a_f2 : Value) (w : World) (R : Ending → World → Prop) : Prop :=
  (∃ I4 : Nat → Int → World → Prop, (∃ m, I4 m 0 w) ∧ ∀ (m4 : Nat) (v3 : Int) (w5 : World), I4 m4 v3 w5 → ((((v3 : Int) < ((a_s1l : Nat) : Int)) → (∃ (b6 o7 : Nat), a_s1 = some ⟨b6, o7, none⟩ ∧ ((0 : Int) ≤ v3 ∧ v3 < ((a_s1l : Nat) : Int) ∧ (∃ x8 : Int, ∃ x9 : ByteArray, CellsAt w5 ⟨b6, o7 + (v3 : Int).toNat * 2, none⟩ [.int .i64 x8, .string x9] ∧ (Invoke Tryd.prog a_f2 #[.agg #[.int .i64 x8, .string x9]] w5 fun e w11 => ∃ x10 : Bool, e = .returned (.bool x10) ∧ (((x10 = true) → R (.returned (.int .i64 v3)) w11) ∧ ((x10 = false) → (∀ r13 : Int, r13 = IntKind.wrap .i64 (v3 + 1) → (∃ m14, m14 < m4 ∧ I4 m14 r13 w11))))))))) ∧ ((¬ ((v3 : Int) < ((a_s1l : Nat) : Int))) → R (.returned (.int .i64 (-1))) w5)))

theorem vc49 {a_s1 : Option Addr} {a_s1l : Nat} {a_s1c : Nat} {a_f2 : Value} {w : World} {R : Ending → World → Prop} (H : Vc49 a_s1 a_s1l a_s1c a_f2 w R) : Calls Tryd.prog 49 #[.slice a_s1 a_s1l a_s1c, a_f2] w R := by
  unfold Vc49 at H
  refine calls_start [.slice a_s1 a_s1l a_s1c, a_f2] Tryd.func49 rfl Tryd.ntmps49 rfl ?_
  refine c_seq ?_
  intro K1 hK1
  refine c_region ?_
  refine L_val (v := .int .i64 0) (y_assign ev_c) ?_
  refine l_nil ?_
  refine then_norm ?_
  refine hK1 _ _ ?_
  clear hK1
  refine c_seq ?_
  intro K2 hK2
  refine c_seq ?_
  intro K3 hK3
  refine c_region ?_
  refine L_val (v := .slice a_s1 a_s1l a_s1c) (y_move (ev_tv rfl rfl)) ?_
  refine L_val (v := .int .i64 ((a_s1l : Nat) : Int)) (y_len Tryd.underlying51 rfl (map_ev1 (ev_tv rfl rfl))) ?_
  refine L_val (v := .int .i64 0) (y_move ev_c) ?_
  refine l_nil ?_
  refine then_norm ?_
  refine hK3 _ _ ?_
  clear hK3
  refine c_block ?_
  obtain ⟨I4, ⟨m8, HI9⟩, H⟩ := H
  refine loop_fr ([(4, 5), (8, 18)]) (fun m ff ww => ∃ (v3 : Int), ff 8 = (.int .i64 v3 : Value) ∧ I4 m v3 ww) m8 ⟨0, rfl, HI9⟩ ?_
  rintro m4 f5 w5 hag6 ⟨v3, hs10, HI7⟩
  replace H := H m4 v3 w5 HI7
  refine c_seq ?_
  intro K11 hK11
  refine c_region ?_
  refine L_val (v := .bool (decide ((v3 : Int) < ((a_s1l : Nat) : Int)))) (y_lss (ev_tv rfl hs10) (ev_tv rfl ((hag6 7 rfl).trans rfl))) ?_
  refine l_nil ?_
  refine then_norm ?_
  refine hK11 _ _ ?_
  clear hK11
  refine c_seq ?_
  intro K12 hK12
  rcases (Decidable.em ((v3 : Int) < ((a_s1l : Nat) : Int))) with hb13 | hb13
  · replace H := H.1 hb13
    have hq14 : Value.bool (decide ((v3 : Int) < ((a_s1l : Nat) : Int))) = Value.bool true := congrArg Value.bool (decide_eq_true hb13)
    refine cond_t (ev_tv rfl hq14) ?_
    refine c_skip ?_
    refine then_norm ?_
    refine hK12 _ _ ?_
    clear hK12
    refine c_seq ?_
    intro K15 hK15
    refine c_block ?_
    refine c_seq ?_
    intro K16 hK16
    refine c_region ?_
    refine L_val (v := .int .i64 v3) (y_move (ev_tv rfl hs10)) ?_
    refine L_val (v := .int .i64 v3) (y_assign (ev_tv rfl rfl)) ?_
    refine l_nil ?_
    refine then_norm ?_
    refine hK16 _ _ ?_
    clear hK16
    refine c_seq ?_
    intro K17 hK17
    refine c_region ?_
    refine L_val (v := a_f2) (y_move (ev_tv rfl ((hag6 1 rfl).trans rfl))) ?_
    refine L_val (v := .slice a_s1 a_s1l a_s1c) (y_move (ev_tv rfl ((hag6 0 rfl).trans rfl))) ?_
    refine L_val (v := .int .i64 v3) (y_move (ev_tv rfl rfl)) ?_
    obtain ⟨b6, o7, rfl, H⟩ := H
    obtain ⟨hi18, hi19, H⟩ := H
    refine L_val (v := .pointer (some ⟨b6, o7 + (v3 : Int).toNat * 2, none⟩)) (y_ix Tryd.underlying51 Tryd.type42 rfl (ev_tv rfl rfl) (ev_tv rfl rfl) hi18 hi19) ?_
    obtain ⟨x8, x9, hc20, H⟩ := H
    refine L_val (v := .agg #[.int .i64 x8, .string x9]) (y_loadAgg Tryd.underlying42 rfl Tryd.type42 rfl (ev_tv rfl rfl) hc20) ?_
    obtain ⟨khk26, firsthk26, caphk26, hi27, hk26, H⟩ := H
    refine L_call (y_callv hk26 (map_ev1 (ev_tv rfl rfl)) ((ev_tv rfl rfl).trans hi27)) (Calls.mono H ?_)
    clear H
    rintro _ w11 ⟨x10, rfl, H⟩
    refine ⟨_, rfl, ?_⟩
    refine l_nil ?_
    refine then_norm ?_
    refine hK17 _ _ ?_
    clear hK17
    rcases Bool.eq_false_or_eq_true x10 with hb21 | hb21
    · replace H := H.1 hb21
      have hq22 : Value.bool (x10) = Value.bool true := congrArg Value.bool hb21
      refine cond_t (ev_tv rfl hq22) ?_
      refine c_seq ?_
      intro K23 hK23
      refine c_region ?_
      refine L_val (v := .int .i64 v3) (y_move (ev_tv rfl rfl)) ?_
      refine L_val (v := .int .i64 v3) (y_assign (ev_tv rfl rfl)) ?_
      refine l_nil ?_
      refine then_norm ?_
      refine hK23 _ _ ?_
      clear hK23
      refine c_ret ?_
      refine block_ret ?_
      refine then_ret ?_
      refine then_ret ?_
      refine block_ret ?_
      refine then_ret ?_
      exact body_1 rfl (ev_tv rfl rfl) H
    · replace H := H.2 hb21
      have hq22 : Value.bool (x10) = Value.bool false := congrArg Value.bool hb21
      refine cond_f (ev_tv rfl hq22) ?_
      refine c_skip ?_
      refine block_norm ?_
      refine then_norm ?_
      refine hK15 _ _ ?_
      clear hK15
      refine c_region ?_
      obtain ⟨r13, hr24⟩ : ∃ r13 : Int, r13 = IntKind.wrap .i64 (v3 + 1) := ⟨_, rfl⟩
      replace H := H r13 hr24
      refine L_val (v := .int .i64 r13) (y_add (ev_tv rfl hs10) ev_c hr24) ?_
      refine L_val (v := .int .i64 r13) (y_move (ev_tv rfl rfl)) ?_
      refine l_nil ?_
      refine then_norm ?_
      obtain ⟨m14, hm25, H⟩ := H
      exact ⟨_, rfl, (by repeat (first | exact agree_refl | exact hag6 | refine agree_upd rfl ?_ | refine agree_via hag6 rfl ?_)), m14, hm25, _, rfl, H⟩
  · replace H := H.2 hb13
    have hq14 : Value.bool (decide ((v3 : Int) < ((a_s1l : Nat) : Int))) = Value.bool false := congrArg Value.bool (decide_eq_false hb13)
    refine cond_f (ev_tv rfl hq14) ?_
    refine c_exit ?_
    refine then_exit ?_
    refine then_exit ?_
    refine block_hit ?_
    refine then_norm ?_
    refine hK2 _ _ ?_
    clear hK2
    refine c_seq ?_
    intro K28 hK28
    refine c_region ?_
    refine L_val (v := .int .i64 (-1)) (y_assign ev_c) ?_
    refine l_nil ?_
    refine then_norm ?_
    refine hK28 _ _ ?_
    clear hK28
    refine c_ret ?_
    exact body_1 rfl (ev_tv rfl rfl) H

/-- slices.Index[[]int,int] -/
def Vc61 (a_s1 : Option Addr) (a_s1l : Nat) (a_s1c : Nat) (a_v2 : Int) (w : World) (R : Ending → World → Prop) : Prop :=
  (∃ I4 : Nat → Int → World → Prop, (∃ m, I4 m 0 w) ∧ ∀ (m4 : Nat) (v3 : Int) (w5 : World), I4 m4 v3 w5 → ((((v3 : Int) < ((a_s1l : Nat) : Int)) → (∃ (b6 o7 : Nat), a_s1 = some ⟨b6, o7, none⟩ ∧ ((0 : Int) ≤ v3 ∧ v3 < ((a_s1l : Nat) : Int) ∧ (∃ x8 : Int, World.cell? w5 ⟨b6, o7 + (v3 : Int).toNat, none⟩ = some (.int .i64 x8) ∧ ((((a_v2 : Int) = x8) → R (.returned (.int .i64 v3)) w5) ∧ ((¬ ((a_v2 : Int) = x8)) → (∀ r9 : Int, r9 = IntKind.wrap .i64 (v3 + 1) → (∃ m10, m10 < m4 ∧ I4 m10 r9 w5)))))))) ∧ ((¬ ((v3 : Int) < ((a_s1l : Nat) : Int))) → R (.returned (.int .i64 (-1))) w5)))

theorem vc61 {a_s1 : Option Addr} {a_s1l : Nat} {a_s1c : Nat} {a_v2 : Int} {w : World} {R : Ending → World → Prop} (H : Vc61 a_s1 a_s1l a_s1c a_v2 w R) : Calls Tryd.prog 61 #[.slice a_s1 a_s1l a_s1c, .int .i64 a_v2] w R := by
  unfold Vc61 at H
  refine calls_start [.slice a_s1 a_s1l a_s1c, .int .i64 a_v2] Tryd.func61 rfl Tryd.ntmps61 rfl ?_
  refine c_seq ?_
  intro K1 hK1
  refine c_region ?_
  refine L_val (v := .int .i64 0) (y_assign ev_c) ?_
  refine l_nil ?_
  refine then_norm ?_
  refine hK1 _ _ ?_
  clear hK1
  refine c_seq ?_
  intro K2 hK2
  refine c_seq ?_
  intro K3 hK3
  refine c_region ?_
  refine L_val (v := .slice a_s1 a_s1l a_s1c) (y_move (ev_tv rfl rfl)) ?_
  refine L_val (v := .int .i64 ((a_s1l : Nat) : Int)) (y_len Tryd.underlying38 rfl (map_ev1 (ev_tv rfl rfl))) ?_
  refine L_val (v := .int .i64 0) (y_move ev_c) ?_
  refine l_nil ?_
  refine then_norm ?_
  refine hK3 _ _ ?_
  clear hK3
  refine c_block ?_
  obtain ⟨I4, ⟨m8, HI9⟩, H⟩ := H
  refine loop_fr ([(4, 5), (8, 18)]) (fun m ff ww => ∃ (v3 : Int), ff 8 = (.int .i64 v3 : Value) ∧ I4 m v3 ww) m8 ⟨0, rfl, HI9⟩ ?_
  rintro m4 f5 w5 hag6 ⟨v3, hs10, HI7⟩
  replace H := H m4 v3 w5 HI7
  refine c_seq ?_
  intro K11 hK11
  refine c_region ?_
  refine L_val (v := .bool (decide ((v3 : Int) < ((a_s1l : Nat) : Int)))) (y_lss (ev_tv rfl hs10) (ev_tv rfl ((hag6 7 rfl).trans rfl))) ?_
  refine l_nil ?_
  refine then_norm ?_
  refine hK11 _ _ ?_
  clear hK11
  refine c_seq ?_
  intro K12 hK12
  rcases (Decidable.em ((v3 : Int) < ((a_s1l : Nat) : Int))) with hb13 | hb13
  · replace H := H.1 hb13
    have hq14 : Value.bool (decide ((v3 : Int) < ((a_s1l : Nat) : Int))) = Value.bool true := congrArg Value.bool (decide_eq_true hb13)
    refine cond_t (ev_tv rfl hq14) ?_
    refine c_skip ?_
    refine then_norm ?_
    refine hK12 _ _ ?_
    clear hK12
    refine c_seq ?_
    intro K15 hK15
    refine c_block ?_
    refine c_seq ?_
    intro K16 hK16
    refine c_region ?_
    refine L_val (v := .int .i64 v3) (y_move (ev_tv rfl hs10)) ?_
    refine L_val (v := .int .i64 v3) (y_assign (ev_tv rfl rfl)) ?_
    refine l_nil ?_
    refine then_norm ?_
    refine hK16 _ _ ?_
    clear hK16
    refine c_seq ?_
    intro K17 hK17
    refine c_region ?_
    refine L_val (v := .int .i64 a_v2) (y_move (ev_tv rfl ((hag6 1 rfl).trans rfl))) ?_
    refine L_val (v := .slice a_s1 a_s1l a_s1c) (y_move (ev_tv rfl ((hag6 0 rfl).trans rfl))) ?_
    refine L_val (v := .int .i64 v3) (y_move (ev_tv rfl rfl)) ?_
    obtain ⟨b6, o7, rfl, H⟩ := H
    obtain ⟨hi18, hi19, H⟩ := H
    refine L_val (v := .pointer (some ⟨b6, o7 + (v3 : Int).toNat, none⟩)) (y_ix1 Tryd.underlying38 Tryd.type3 rfl (ev_tv rfl rfl) (ev_tv rfl rfl) hi18 hi19) ?_
    obtain ⟨x8, hc20, H⟩ := H
    refine L_val (v := .int .i64 x8) (y_load Tryd.underlying3 rfl (ev_tv rfl rfl) hc20) ?_
    refine L_val (v := .bool (decide ((a_v2 : Int) = x8))) (y_ieq (ev_tv rfl rfl) (ev_tv rfl rfl)) ?_
    refine l_nil ?_
    refine then_norm ?_
    refine hK17 _ _ ?_
    clear hK17
    rcases (Decidable.em ((a_v2 : Int) = x8)) with hb21 | hb21
    · replace H := H.1 hb21
      have hq22 : Value.bool (decide ((a_v2 : Int) = x8)) = Value.bool true := congrArg Value.bool (decide_eq_true hb21)
      refine cond_t (ev_tv rfl hq22) ?_
      refine c_seq ?_
      intro K23 hK23
      refine c_region ?_
      refine L_val (v := .int .i64 v3) (y_move (ev_tv rfl rfl)) ?_
      refine L_val (v := .int .i64 v3) (y_assign (ev_tv rfl rfl)) ?_
      refine l_nil ?_
      refine then_norm ?_
      refine hK23 _ _ ?_
      clear hK23
      refine c_ret ?_
      refine block_ret ?_
      refine then_ret ?_
      refine then_ret ?_
      refine block_ret ?_
      refine then_ret ?_
      exact body_1 rfl (ev_tv rfl rfl) H
    · replace H := H.2 hb21
      have hq22 : Value.bool (decide ((a_v2 : Int) = x8)) = Value.bool false := congrArg Value.bool (decide_eq_false hb21)
      refine cond_f (ev_tv rfl hq22) ?_
      refine c_skip ?_
      refine block_norm ?_
      refine then_norm ?_
      refine hK15 _ _ ?_
      clear hK15
      refine c_region ?_
      obtain ⟨r9, hr24⟩ : ∃ r9 : Int, r9 = IntKind.wrap .i64 (v3 + 1) := ⟨_, rfl⟩
      replace H := H r9 hr24
      refine L_val (v := .int .i64 r9) (y_add (ev_tv rfl hs10) ev_c hr24) ?_
      refine L_val (v := .int .i64 r9) (y_move (ev_tv rfl rfl)) ?_
      refine l_nil ?_
      refine then_norm ?_
      obtain ⟨m10, hm25, H⟩ := H
      exact ⟨_, rfl, (by repeat (first | exact agree_refl | exact hag6 | refine agree_upd rfl ?_ | refine agree_via hag6 rfl ?_)), m10, hm25, _, rfl, H⟩
  · replace H := H.2 hb13
    have hq14 : Value.bool (decide ((v3 : Int) < ((a_s1l : Nat) : Int))) = Value.bool false := congrArg Value.bool (decide_eq_false hb13)
    refine cond_f (ev_tv rfl hq14) ?_
    refine c_exit ?_
    refine then_exit ?_
    refine then_exit ?_
    refine block_hit ?_
    refine then_norm ?_
    refine hK2 _ _ ?_
    clear hK2
    refine c_seq ?_
    intro K26 hK26
    refine c_region ?_
    refine L_val (v := .int .i64 (-1)) (y_assign ev_c) ?_
    refine l_nil ?_
    refine then_norm ?_
    refine hK26 _ _ ?_
    clear hK26
    refine c_ret ?_
    exact body_1 rfl (ev_tv rfl rfl) H

end Go.Proofs.YtimokldcmpbjcaaDoor
