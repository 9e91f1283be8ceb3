/- For each Go function: what must be shown of it, and that this is enough. Printed by a program over the seat's translation. -/
import Derived.Test.YtimokldcmpbjcaaDoorVcGenA
namespace Go.Proofs.YtimokldcmpbjcaaDoor
open Go Go.Vc
set_option maxRecDepth 100000
set_option linter.unusedVariables false
set_option maxHeartbeats 2000000

/-- (parapet/rcu.Domain).made -/
def Vc40 (a_d1 : Option Addr) (w : World) (R : Ending → World → Prop) : Prop :=
  (((a_d1 ≠ none) → (∃ (b2 o3 : Nat), a_d1 = some ⟨b2, o3, none⟩ ∧ (∃ x4 : Option Addr, ∃ x4l : Nat, ∃ x4c : Nat, World.cell? w ⟨b2, o3, none⟩ = some (.slice x4 x4l x4c) ∧ R (.returned (.bool (decide ((0 : Int) < ((x4l : Nat) : Int))))) w))) ∧ ((a_d1 = none) → R (.returned (.bool false)) w))

theorem vc40 {a_d1 : Option Addr} {w : World} {R : Ending → World → Prop} (H : Vc40 a_d1 w R) : Calls Tryd.prog 40 #[.pointer a_d1] w R := by
  unfold Vc40 at H
  refine calls_start [.pointer a_d1] Tryd.func40 rfl Tryd.ntmps40 rfl ?_
  refine c_seq ?_
  intro K1 hK1
  refine c_region ?_
  refine L_val (v := .bool false) (y_assign ev_c) ?_
  refine l_nil ?_
  refine then_norm ?_
  refine hK1 _ _ ?_
  clear hK1
  refine c_seq ?_
  intro K2 hK2
  refine c_region ?_
  refine L_val (v := .pointer a_d1) (y_move (ev_tv rfl rfl)) ?_
  refine L_val (v := .bool (!a_d1.isNone)) (y_pne Tryd.underlying30 (ev_tv rfl rfl) ev_c) ?_
  refine L_val (v := .bool (!a_d1.isNone)) (y_move (ev_tv rfl rfl)) ?_
  rcases (Classical.em (a_d1 ≠ none)) with hb3 | hb3
  · replace H := H.1 hb3
    have hq4 : Value.bool (!a_d1.isNone) = Value.bool true := congrArg Value.bool (nisn_t hb3)
    refine G_val (dj := 5) rfl rfl hq4 (v := .pointer a_d1) (y_move (ev_tv rfl rfl)) ?_
    obtain ⟨b2, o3, rfl, H⟩ := H
    refine G_val (dj := 5) rfl rfl hq4 (v := .pointer (some ⟨b2, o3, none⟩)) (y_nilCheck (ev_tv rfl rfl)) ?_
    refine G_val (dj := 5) rfl rfl hq4 (v := .pointer (some ⟨b2, o3, none⟩)) (Tryd.fa75_0 (ev_tv rfl rfl)) ?_
    obtain ⟨x4, x4l, x4c, hc5, H⟩ := H
    refine G_val (dj := 5) rfl rfl hq4 (v := .slice x4 x4l x4c) (y_load Tryd.underlying38 rfl (ev_tv rfl rfl) hc5) ?_
    refine G_val (dj := 5) rfl rfl hq4 (v := .int .i64 ((x4l : Nat) : Int)) (y_len Tryd.underlying38 rfl (map_ev1 (ev_tv rfl rfl))) ?_
    refine G_val (dj := 5) rfl rfl hq4 (v := .bool (decide ((0 : Int) < ((x4l : Nat) : Int)))) (y_gtr (ev_tv rfl rfl) ev_c) ?_
    refine L_val (v := .bool (decide ((0 : Int) < ((x4l : Nat) : Int)))) (y_pick_t (ev_tv rfl hq4) (ev_tv rfl rfl)) ?_
    refine L_val (v := .bool (decide ((0 : Int) < ((x4l : Nat) : Int)))) (y_assign (ev_tv rfl rfl)) ?_
    refine l_nil ?_
    refine then_norm ?_
    refine hK2 _ _ ?_
    clear hK2
    refine c_ret ?_
    exact body_1 rfl (ev_tv rfl rfl) H
  · replace hb3 : a_d1 = none := Classical.not_not.1 hb3
    replace H := H.2 hb3
    have hq4 : Value.bool (!a_d1.isNone) = Value.bool false := congrArg Value.bool (nisn_f hb3)
    refine G_not (b' := false) (dj := 5) rfl rfl hq4 rfl ?_
    refine G_not (b' := false) (dj := 5) rfl rfl hq4 rfl ?_
    refine G_not (b' := false) (dj := 5) rfl rfl hq4 rfl ?_
    refine G_not (b' := false) (dj := 5) rfl rfl hq4 rfl ?_
    refine G_not (b' := false) (dj := 5) rfl rfl hq4 rfl ?_
    refine G_not (b' := false) (dj := 5) rfl rfl hq4 rfl ?_
    refine L_val (v := .bool false) (y_pick_f (ev_tv rfl hq4) ev_c) ?_
    refine L_val (v := .bool false) (y_assign (ev_tv rfl rfl)) ?_
    refine l_nil ?_
    refine then_norm ?_
    refine hK2 _ _ ?_
    clear hK2
    refine c_ret ?_
    exact body_1 rfl (ev_tv rfl rfl) H

/-- slices.Clone[[]parapet/api.Name,parapet/api.Name] -/
def Vc41 (a_s1 : Option Addr) (a_s1l : Nat) (a_s1c : Nat) (w : World) (R : Ending → World → Prop) : Prop :=
  (((a_s1 = none) → R (.returned (.slice none 0 0)) w) ∧ ((a_s1 ≠ none) → (∀ (b2 : Nat) (w3 : World), b2 = World.heapSize w → w3 = World.alloc w (.cells #[] 42) → (∃ x5 : Option Addr, ∃ x5l : Nat, ∃ x5c : Nat, ∃ w4 : World, (Builtin.append_ #[51, 51] 51 #[.slice (some ⟨b2, 0, none⟩) 0 0, .slice a_s1 a_s1l a_s1c]).run Tryd.prog w3 = .ok (.slice x5 x5l x5c) w4 ∧ R (.returned (.slice x5 x5l x5c)) w4))))

theorem vc41 {a_s1 : Option Addr} {a_s1l : Nat} {a_s1c : Nat} {w : World} {R : Ending → World → Prop} (H : Vc41 a_s1 a_s1l a_s1c w R) : Calls Tryd.prog 41 #[.slice a_s1 a_s1l a_s1c] w R := by
  unfold Vc41 at H
  refine calls_start [.slice a_s1 a_s1l a_s1c] Tryd.func41 rfl Tryd.ntmps41 rfl ?_
  refine c_seq ?_
  intro K1 hK1
  refine c_region ?_
  refine L_val (v := .slice none 0 0) (y_assign ev_c) ?_
  refine l_nil ?_
  refine then_norm ?_
  refine hK1 _ _ ?_
  clear hK1
  refine c_seq ?_
  intro K2 hK2
  refine c_seq ?_
  intro K3 hK3
  refine c_region ?_
  refine L_val (v := .slice a_s1 a_s1l a_s1c) (y_move (ev_tv rfl rfl)) ?_
  refine L_val (v := .bool (a_s1.isNone)) (y_sleq Tryd.underlying51 (ev_tv rfl rfl) ev_c) ?_
  refine l_nil ?_
  refine then_norm ?_
  refine hK3 _ _ ?_
  clear hK3
  rcases (Classical.em (a_s1 = none)) with hb4 | hb4
  · replace H := H.1 hb4
    have hq5 : Value.bool (a_s1.isNone) = Value.bool true := congrArg Value.bool (isn_t hb4)
    refine cond_t (ev_tv rfl hq5) ?_
    refine c_seq ?_
    intro K6 hK6
    refine c_region ?_
    refine L_val (v := .slice none 0 0) (y_assign ev_c) ?_
    refine l_nil ?_
    refine then_norm ?_
    refine hK6 _ _ ?_
    clear hK6
    refine c_ret ?_
    refine then_ret ?_
    exact body_1 rfl (ev_tv rfl rfl) H
  · replace H := H.2 hb4
    have hq5 : Value.bool (a_s1.isNone) = Value.bool false := congrArg Value.bool (isn_f hb4)
    refine cond_f (ev_tv rfl hq5) ?_
    refine c_skip ?_
    refine then_norm ?_
    refine hK2 _ _ ?_
    clear hK2
    refine c_seq ?_
    intro K7 hK7
    refine c_region ?_
    obtain ⟨b2, hb8⟩ : ∃ b2 : Nat, b2 = World.heapSize w := ⟨_, rfl⟩
    obtain ⟨w3, hw9⟩ : ∃ w3 : World, w3 = World.alloc w (.cells #[] 42) := ⟨_, rfl⟩
    replace H := H b2 w3 hb8 hw9
    refine L_val (v := .slice (some ⟨b2, 0, none⟩) 0 0) (y_buildSlice rfl hb8 hw9 (by kernel_rfl)) ?_
    refine L_val (v := .slice a_s1 a_s1l a_s1c) (y_move (ev_tv rfl rfl)) ?_
    obtain ⟨x5, x5l, x5c, w4, hc10, H⟩ := H
    refine L_val (v := .slice x5 x5l x5c) (y_bi_append (map_ev2 (ev_tv rfl rfl) (ev_tv rfl rfl)) hc10) ?_
    refine L_val (v := .slice x5 x5l x5c) (y_assign (ev_tv rfl rfl)) ?_
    refine l_nil ?_
    refine then_norm ?_
    refine hK7 _ _ ?_
    clear hK7
    refine c_ret ?_
    exact body_1 rfl (ev_tv rfl rfl) H

/-- (parapet/rcu.Domain).is -/
def Vc42 (a_d1 : Option Addr) (a_h2 : Int) (w : World) (R : Ending → World → Prop) : Prop :=
  (Calls Tryd.prog 40 #[.pointer a_d1] w fun e w4 => ∃ x3 : Bool, e = .returned (.bool x3) ∧ (((x3 = true) → ((((0 : Int) ≤ a_h2) → (∃ (b6 o7 : Nat), a_d1 = some ⟨b6, o7, none⟩ ∧ (∃ x8 : Option Addr, ∃ x8l : Nat, ∃ x8c : Nat, World.cell? w4 ⟨b6, o7, none⟩ = some (.slice x8 x8l x8c) ∧ R (.returned (.bool (decide ((a_h2 : Int) < ((x8l : Nat) : Int))))) w4))) ∧ ((¬ ((0 : Int) ≤ a_h2)) → R (.returned (.bool false)) w4))) ∧ ((x3 = false) → R (.returned (.bool false)) w4)))

theorem vc42 {a_d1 : Option Addr} {a_h2 : Int} {w : World} {R : Ending → World → Prop} (H : Vc42 a_d1 a_h2 w R) : Calls Tryd.prog 42 #[.pointer a_d1, .int .i64 a_h2] w R := by
  unfold Vc42 at H
  refine calls_start [.pointer a_d1, .int .i64 a_h2] Tryd.func42 rfl Tryd.ntmps42 rfl ?_
  refine c_seq ?_
  intro K1 hK1
  refine c_region ?_
  refine L_val (v := .bool false) (y_assign ev_c) ?_
  refine l_nil ?_
  refine then_norm ?_
  refine hK1 _ _ ?_
  clear hK1
  refine c_seq ?_
  intro K2 hK2
  refine c_region ?_
  refine L_val (v := .pointer a_d1) (y_move (ev_tv rfl rfl)) ?_
  refine L_call (y_call Tryd.call40 (map_ev1 (ev_tv rfl rfl)) ev_f) (Calls.mono H ?_)
  clear H
  rintro _ w4 ⟨x3, rfl, H⟩
  refine ⟨_, rfl, ?_⟩
  refine L_val (v := .bool x3) (y_move (ev_tv rfl rfl)) ?_
  rcases Bool.eq_false_or_eq_true x3 with hb3 | hb3
  · replace H := H.1 hb3
    have hq4 : Value.bool (x3) = Value.bool true := congrArg Value.bool hb3
    refine G_val (dj := 7) rfl rfl hq4 (v := .int .i64 a_h2) (y_move (ev_tv rfl rfl)) ?_
    refine G_val (dj := 7) rfl rfl hq4 (v := .bool (decide ((0 : Int) ≤ a_h2))) (y_geq (ev_tv rfl rfl) ev_c) ?_
    refine L_val (v := .bool (decide ((0 : Int) ≤ a_h2))) (y_pick_t (ev_tv rfl hq4) (ev_tv rfl rfl)) ?_
    refine L_val (v := .bool (decide ((0 : Int) ≤ a_h2))) (y_move (ev_tv rfl rfl)) ?_
    rcases (Decidable.em ((0 : Int) ≤ a_h2)) with hb5 | hb5
    · replace H := H.1 hb5
      have hq6 : Value.bool (decide ((0 : Int) ≤ a_h2)) = Value.bool true := congrArg Value.bool (decide_eq_true hb5)
      refine G_val (dj := 11) rfl rfl hq6 (v := .int .i64 a_h2) (y_move (ev_tv rfl rfl)) ?_
      refine G_val (dj := 11) rfl rfl hq6 (v := .pointer a_d1) (y_move (ev_tv rfl rfl)) ?_
      obtain ⟨b6, o7, rfl, H⟩ := H
      refine G_val (dj := 11) rfl rfl hq6 (v := .pointer (some ⟨b6, o7, none⟩)) (y_nilCheck (ev_tv rfl rfl)) ?_
      refine G_val (dj := 11) rfl rfl hq6 (v := .pointer (some ⟨b6, o7, none⟩)) (Tryd.fa75_0 (ev_tv rfl rfl)) ?_
      obtain ⟨x8, x8l, x8c, hc7, H⟩ := H
      refine G_val (dj := 11) rfl rfl hq6 (v := .slice x8 x8l x8c) (y_load Tryd.underlying38 rfl (ev_tv rfl rfl) hc7) ?_
      refine G_val (dj := 11) rfl rfl hq6 (v := .int .i64 ((x8l : Nat) : Int)) (y_len Tryd.underlying38 rfl (map_ev1 (ev_tv rfl rfl))) ?_
      refine G_val (dj := 11) rfl rfl hq6 (v := .bool (decide ((a_h2 : Int) < ((x8l : Nat) : Int)))) (y_lss (ev_tv rfl rfl) (ev_tv rfl rfl)) ?_
      refine L_val (v := .bool (decide ((a_h2 : Int) < ((x8l : Nat) : Int)))) (y_pick_t (ev_tv rfl hq6) (ev_tv rfl rfl)) ?_
      refine L_val (v := .bool (decide ((a_h2 : Int) < ((x8l : Nat) : Int)))) (y_assign (ev_tv rfl rfl)) ?_
      refine l_nil ?_
      refine then_norm ?_
      refine hK2 _ _ ?_
      clear hK2
      refine c_ret ?_
      exact body_1 rfl (ev_tv rfl rfl) H
    · replace H := H.2 hb5
      have hq6 : Value.bool (decide ((0 : Int) ≤ a_h2)) = Value.bool false := congrArg Value.bool (decide_eq_false hb5)
      refine G_not (b' := false) (dj := 11) rfl rfl hq6 rfl ?_
      refine G_not (b' := false) (dj := 11) rfl rfl hq6 rfl ?_
      refine G_not (b' := false) (dj := 11) rfl rfl hq6 rfl ?_
      refine G_not (b' := false) (dj := 11) rfl rfl hq6 rfl ?_
      refine G_not (b' := false) (dj := 11) rfl rfl hq6 rfl ?_
      refine G_not (b' := false) (dj := 11) rfl rfl hq6 rfl ?_
      refine G_not (b' := false) (dj := 11) rfl rfl hq6 rfl ?_
      refine L_val (v := .bool false) (y_pick_f (ev_tv rfl hq6) ev_c) ?_
      refine L_val (v := .bool false) (y_assign (ev_tv rfl rfl)) ?_
      refine l_nil ?_
      refine then_norm ?_
      refine hK2 _ _ ?_
      clear hK2
      refine c_ret ?_
      exact body_1 rfl (ev_tv rfl rfl) H
  · replace H := H.2 hb3
    have hq4 : Value.bool (x3) = Value.bool false := congrArg Value.bool hb3
    refine G_not (b' := false) (dj := 7) rfl rfl hq4 rfl ?_
    refine G_not (b' := false) (dj := 7) rfl rfl hq4 rfl ?_
    refine L_val (v := .bool false) (y_pick_f (ev_tv rfl hq4) ev_c) ?_
    refine L_val (v := .bool false) (y_move (ev_tv rfl rfl)) ?_
    refine G_not (b' := false) (dj := 11) rfl rfl rfl rfl ?_
    refine G_not (b' := false) (dj := 11) rfl rfl rfl rfl ?_
    refine G_not (b' := false) (dj := 11) rfl rfl rfl rfl ?_
    refine G_not (b' := false) (dj := 11) rfl rfl rfl rfl ?_
    refine G_not (b' := false) (dj := 11) rfl rfl rfl rfl ?_
    refine G_not (b' := false) (dj := 11) rfl rfl rfl rfl ?_
    refine G_not (b' := false) (dj := 11) rfl rfl rfl rfl ?_
    refine L_val (v := .bool false) (y_pick_f (ev_tv rfl rfl) ev_c) ?_
    refine L_val (v := .bool false) (y_assign (ev_tv rfl rfl)) ?_
    refine l_nil ?_
    refine then_norm ?_
    refine hK2 _ _ ?_
    clear hK2
    refine c_ret ?_
    exact body_1 rfl (ev_tv rfl rfl) H

/-- slices.Contains[[]int,int] -/
def Vc48 (a_s1 : Option Addr) (a_s1l : Nat) (a_s1c : Nat) (a_v2 : Int) (w : World) (R : Ending → World → Prop) : Prop :=
  (Calls Tryd.prog 61 #[.slice a_s1 a_s1l a_s1c, .int .i64 a_v2] w fun e w4 => ∃ x3 : Int, e = .returned (.int .i64 x3) ∧ R (.returned (.bool (decide ((0 : Int) ≤ x3)))) w4)

theorem vc48 {a_s1 : Option Addr} {a_s1l : Nat} {a_s1c : Nat} {a_v2 : Int} {w : World} {R : Ending → World → Prop} (H : Vc48 a_s1 a_s1l a_s1c a_v2 w R) : Calls Tryd.prog 48 #[.slice a_s1 a_s1l a_s1c, .int .i64 a_v2] w R := by
  unfold Vc48 at H
  refine calls_start [.slice a_s1 a_s1l a_s1c, .int .i64 a_v2] Tryd.func48 rfl Tryd.ntmps48 rfl ?_
  refine c_seq ?_
  intro K1 hK1
  refine c_region ?_
  refine L_val (v := .bool false) (y_assign ev_c) ?_
  refine l_nil ?_
  refine then_norm ?_
  refine hK1 _ _ ?_
  clear hK1
  refine c_seq ?_
  intro K2 hK2
  refine c_region ?_
  refine L_val (v := .slice a_s1 a_s1l a_s1c) (y_move (ev_tv rfl rfl)) ?_
  refine L_val (v := .int .i64 a_v2) (y_move (ev_tv rfl rfl)) ?_
  refine L_call (y_call Tryd.call61 (map_ev2 (ev_tv rfl rfl) (ev_tv rfl rfl)) ev_f) (Calls.mono H ?_)
  clear H
  rintro _ w4 ⟨x3, rfl, H⟩
  refine ⟨_, rfl, ?_⟩
  refine L_val (v := .bool (decide ((0 : Int) ≤ x3))) (y_geq (ev_tv rfl rfl) ev_c) ?_
  refine L_val (v := .bool (decide ((0 : Int) ≤ x3))) (y_assign (ev_tv rfl rfl)) ?_
  refine l_nil ?_
  refine then_norm ?_
  refine hK2 _ _ ?_
  clear hK2
  refine c_ret ?_
  exact body_1 rfl (ev_tv rfl rfl) H

/-- slices.IndexFunc[[]parapet/api.Name,parapet/api.Name] -/
def Vc49 (a_s1 : Option Addr) (a_s1l : Nat) (a_s1c : Nat) (a_f2 : Value) (w : World) (R : Ending → World → Prop) : Prop :=
  (∃ I4 : Nat → Int → World → Prop, (∃ m, I4 m 0 w) ∧ ∀ (m4 : Nat) (v3 : Int) (w5 : World), I4 m4 v3 w5 → ((((v3 : Int) < ((a_s1l : Nat) : Int)) → (∃ (b6 o7 : Nat), a_s1 = some ⟨b6, o7, none⟩ ∧ ((0 : Int) ≤ v3 ∧ v3 < ((a_s1l : Nat) : Int) ∧ (∃ x8 : Int, ∃ x9 : ByteArray, CellsAt w5 ⟨b6, o7 + (v3 : Int).toNat * 2, none⟩ [.int .i64 x8, .string x9] ∧ (Invoke Tryd.prog a_f2 #[.agg #[.int .i64 x8, .string x9]] w5 fun e w11 => ∃ x10 : Bool, e = .returned (.bool x10) ∧ (((x10 = true) → R (.returned (.int .i64 v3)) w11) ∧ ((x10 = false) → (∀ r13 : Int, r13 = IntKind.wrap .i64 (v3 + 1) → (∃ m14, m14 < m4 ∧ I4 m14 r13 w11))))))))) ∧ ((¬ ((v3 : Int) < ((a_s1l : Nat) : Int))) → R (.returned (.int .i64 (-1))) w5)))

theorem vc49 {a_s1 : Option Addr} {a_s1l : Nat} {a_s1c : Nat} {a_f2 : Value} {w : World} {R : Ending → World → Prop} (H : Vc49 a_s1 a_s1l a_s1c a_f2 w R) : Calls Tryd.prog 49 #[.slice a_s1 a_s1l a_s1c, a_f2] w R := by
  unfold Vc49 at H
  refine calls_start [.slice a_s1 a_s1l a_s1c, a_f2] Tryd.func49 rfl Tryd.ntmps49 rfl ?_
  refine c_seq ?_
  intro K1 hK1
  refine c_region ?_
  refine L_val (v := .int .i64 0) (y_assign ev_c) ?_
  refine l_nil ?_
  refine then_norm ?_
  refine hK1 _ _ ?_
  clear hK1
  refine c_seq ?_
  intro K2 hK2
  refine c_seq ?_
  intro K3 hK3
  refine c_region ?_
  refine L_val (v := .slice a_s1 a_s1l a_s1c) (y_move (ev_tv rfl rfl)) ?_
  refine L_val (v := .int .i64 ((a_s1l : Nat) : Int)) (y_len Tryd.underlying51 rfl (map_ev1 (ev_tv rfl rfl))) ?_
  refine L_val (v := .int .i64 0) (y_move ev_c) ?_
  refine l_nil ?_
  refine then_norm ?_
  refine hK3 _ _ ?_
  clear hK3
  refine c_block ?_
  obtain ⟨I4, ⟨m8, HI9⟩, H⟩ := H
  refine loop_fr ([(4, 5), (8, 18)]) (fun m ff ww => ∃ (v3 : Int), ff 8 = (.int .i64 v3 : Value) ∧ I4 m v3 ww) m8 ⟨0, rfl, HI9⟩ ?_
  rintro m4 f5 w5 hag6 ⟨v3, hs10, HI7⟩
  replace H := H m4 v3 w5 HI7
  refine c_seq ?_
  intro K11 hK11
  refine c_region ?_
  refine L_val (v := .bool (decide ((v3 : Int) < ((a_s1l : Nat) : Int)))) (y_lss (ev_tv rfl hs10) (ev_tv rfl ((hag6 7 rfl).trans rfl))) ?_
  refine l_nil ?_
  refine then_norm ?_
  refine hK11 _ _ ?_
  clear hK11
  refine c_seq ?_
  intro K12 hK12
  rcases (Decidable.em ((v3 : Int) < ((a_s1l : Nat) : Int))) with hb13 | hb13
  · replace H := H.1 hb13
    have hq14 : Value.bool (decide ((v3 : Int) < ((a_s1l : Nat) : Int))) = Value.bool true := congrArg Value.bool (decide_eq_true hb13)
    refine cond_t (ev_tv rfl hq14) ?_
    refine c_skip ?_
    refine then_norm ?_
    refine hK12 _ _ ?_
    clear hK12
    refine c_seq ?_
    intro K15 hK15
    refine c_block ?_
    refine c_seq ?_
    intro K16 hK16
    refine c_region ?_
    refine L_val (v := .int .i64 v3) (y_move (ev_tv rfl hs10)) ?_
    refine L_val (v := .int .i64 v3) (y_assign (ev_tv rfl rfl)) ?_
    refine l_nil ?_
    refine then_norm ?_
    refine hK16 _ _ ?_
    clear hK16
    refine c_seq ?_
    intro K17 hK17
    refine c_region ?_
    refine L_val (v := a_f2) (y_move (ev_tv rfl ((hag6 1 rfl).trans rfl))) ?_
    refine L_val (v := .slice a_s1 a_s1l a_s1c) (y_move (ev_tv rfl ((hag6 0 rfl).trans rfl))) ?_
    refine L_val (v := .int .i64 v3) (y_move (ev_tv rfl rfl)) ?_
    obtain ⟨b6, o7, rfl, H⟩ := H
    obtain ⟨hi18, hi19, H⟩ := H
    refine L_val (v := .pointer (some ⟨b6, o7 + (v3 : Int).toNat * 2, none⟩)) (y_ix Tryd.underlying51 Tryd.type42 rfl (ev_tv rfl rfl) (ev_tv rfl rfl) hi18 hi19) ?_
    obtain ⟨x8, x9, hc20, H⟩ := H
    refine L_val (v := .agg #[.int .i64 x8, .string x9]) (y_loadAgg Tryd.underlying42 rfl Tryd.type42 rfl (ev_tv rfl rfl) hc20) ?_
    obtain ⟨khk26, firsthk26, caphk26, hi27, hk26, H⟩ := H
    refine L_call (y_callv hk26 (map_ev1 (ev_tv rfl rfl)) ((ev_tv rfl rfl).trans hi27)) (Calls.mono H ?_)
    clear H
    rintro _ w11 ⟨x10, rfl, H⟩
    refine ⟨_, rfl, ?_⟩
    refine l_nil ?_
    refine then_norm ?_
    refine hK17 _ _ ?_
    clear hK17
    rcases Bool.eq_false_or_eq_true x10 with hb21 | hb21
    · replace H := H.1 hb21
      have hq22 : Value.bool (x10) = Value.bool true := congrArg Value.bool hb21
      refine cond_t (ev_tv rfl hq22) ?_
      refine c_seq ?_
      intro K23 hK23
      refine c_region ?_
      refine L_val (v := .int .i64 v3) (y_move (ev_tv rfl rfl)) ?_
      refine L_val (v := .int .i64 v3) (y_assign (ev_tv rfl rfl)) ?_
      refine l_nil ?_
      refine then_norm ?_
      refine hK23 _ _ ?_
      clear hK23
      refine c_ret ?_
      refine block_ret ?_
      refine then_ret ?_
      refine then_ret ?_
      refine block_ret ?_
      refine then_ret ?_
      exact body_1 rfl (ev_tv rfl rfl) H
    · replace H := H.2 hb21
      have hq22 : Value.bool (x10) = Value.bool false := congrArg Value.bool hb21
      refine cond_f (ev_tv rfl hq22) ?_
      refine c_skip ?_
      refine block_norm ?_
      refine then_norm ?_
      refine hK15 _ _ ?_
      clear hK15
      refine c_region ?_
      obtain ⟨r13, hr24⟩ : ∃ r13 : Int, r13 = IntKind.wrap .i64 (v3 + 1) := ⟨_, rfl⟩
      replace H := H r13 hr24
      refine L_val (v := .int .i64 r13) (y_add (ev_tv rfl hs10) ev_c hr24) ?_
      refine L_val (v := .int .i64 r13) (y_move (ev_tv rfl rfl)) ?_
      refine l_nil ?_
      refine then_norm ?_
      obtain ⟨m14, hm25, H⟩ := H
      exact ⟨_, rfl, (by repeat (first | exact agree_refl | exact hag6 | refine agree_upd rfl ?_ | refine agree_via hag6 rfl ?_)), m14, hm25, _, rfl, H⟩
  · replace H := H.2 hb13
    have hq14 : Value.bool (decide ((v3 : Int) < ((a_s1l : Nat) : Int))) = Value.bool false := congrArg Value.bool (decide_eq_false hb13)
    refine cond_f (ev_tv rfl hq14) ?_
    refine c_exit ?_
    refine then_exit ?_
    refine then_exit ?_
    refine block_hit ?_
    refine then_norm ?_
    refine hK2 _ _ ?_
    clear hK2
    refine c_seq ?_
    intro K28 hK28
    refine c_region ?_
    refine L_val (v := .int .i64 (-1)) (y_assign ev_c) ?_
    refine l_nil ?_
    refine then_norm ?_
    refine hK28 _ _ ?_
    clear hK28
    refine c_ret ?_
    exact body_1 rfl (ev_tv rfl rfl) H

/-- slices.Index[[]int,int] -/
def Vc61 (a_s1 : Option Addr) (a_s1l : Nat) (a_s1c : Nat) (a_v2 : Int) (w : World) (R : Ending → World → Prop) : Prop :=
  (∃ I4 : Nat → Int → World → Prop, (∃ m, I4 m 0 w) ∧ ∀ (m4 : Nat) (v3 : Int) (w5 : World), I4 m4 v3 w5 → ((((v3 : Int) < ((a_s1l : Nat) : Int)) → (∃ (b6 o7 : Nat), a_s1 = some ⟨b6, o7, none⟩ ∧ ((0 : Int) ≤ v3 ∧ v3 < ((a_s1l : Nat) : Int) ∧ (∃ x8 : Int, World.cell? w5 ⟨b6, o7 + (v3 : Int).toNat, none⟩ = some (.int .i64 x8) ∧ ((((a_v2 : Int) = x8) → R (.returned (.int .i64 v3)) w5) ∧ ((¬ ((a_v2 : Int) = x8)) → (∀ r9 : Int, r9 = IntKind.wrap .i64 (v3 + 1) → (∃ m10, m10 < m4 ∧ I4 m10 r9 w5)))))))) ∧ ((¬ ((v3 : Int) < ((a_s1l : Nat) : Int))) → R (.returned (.int .i64 (-1))) w5)))

theorem vc61 {a_s1 : Option Addr} {a_s1l : Nat} {a_s1c : Nat} {a_v2 : Int} {w : World} {R : Ending → World → Prop} (H : Vc61 a_s1 a_s1l a_s1c a_v2 w R) : Calls Tryd.prog 61 #[.slice a_s1 a_s1l a_s1c, .int .i64 a_v2] w R := by
  unfold Vc61 at H
  refine calls_start [.slice a_s1 a_s1l a_s1c, .int .i64 a_v2] Tryd.func61 rfl Tryd.ntmps61 rfl ?_
  refine c_seq ?_
  intro K1 hK1
  refine c_region ?_
  refine L_val (v := .int .i64 0) (y_assign ev_c) ?_
  refine l_nil ?_
  refine then_norm ?_
  refine hK1 _ _ ?_
  clear hK1
  refine c_seq ?_
  intro K2 hK2
  refine c_seq ?_
  intro K3 hK3
  refine c_region ?_
  refine L_val (v := .slice a_s1 a_s1l a_s1c) (y_move (ev_tv rfl rfl)) ?_
  refine L_val (v := .int .i64 ((a_s1l : Nat) : Int)) (y_len Tryd.underlying38 rfl (map_ev1 (ev_tv rfl rfl))) ?_
  refine L_val (v := .int .i64 0) (y_move ev_c) ?_
  refine l_nil ?_
  refine then_norm ?_
  refine hK3 _ _ ?_
  clear hK3
  refine c_block ?_
  obtain ⟨I4, ⟨m8, HI9⟩, H⟩ := H
  refine loop_fr ([(4, 5), (8, 18)]) (fun m ff ww => ∃ (v3 : Int), ff 8 = (.int .i64 v3 : Value) ∧ I4 m v3 ww) m8 ⟨0, rfl, HI9⟩ ?_
  rintro m4 f5 w5 hag6 ⟨v3, hs10, HI7⟩
  replace H := H m4 v3 w5 HI7
  refine c_seq ?_
  intro K11 hK11
  refine c_region ?_
  refine L_val (v := .bool (decide ((v3 : Int) < ((a_s1l : Nat) : Int)))) (y_lss (ev_tv rfl hs10) (ev_tv rfl ((hag6 7 rfl).trans rfl))) ?_
  refine l_nil ?_
  refine then_norm ?_
  refine hK11 _ _ ?_
  clear hK11
  refine c_seq ?_
  intro K12 hK12
  rcases (Decidable.em ((v3 : Int) < ((a_s1l : Nat) : Int))) with hb13 | hb13
  · replace H := H.1 hb13
    have hq14 : Value.bool (decide ((v3 : Int) < ((a_s1l : Nat) : Int))) = Value.bool true := congrArg Value.bool (decide_eq_true hb13)
    refine cond_t (ev_tv rfl hq14) ?_
    refine c_skip ?_
    refine then_norm ?_
    refine hK12 _ _ ?_
    clear hK12
    refine c_seq ?_
    intro K15 hK15
    refine c_block ?_
    refine c_seq ?_
    intro K16 hK16
    refine c_region ?_
    refine L_val (v := .int .i64 v3) (y_move (ev_tv rfl hs10)) ?_
    refine L_val (v := .int .i64 v3) (y_assign (ev_tv rfl rfl)) ?_
    refine l_nil ?_
    refine then_norm ?_
    refine hK16 _ _ ?_
    clear hK16
    refine c_seq ?_
    intro K17 hK17
    refine c_region ?_
    refine L_val (v := .int .i64 a_v2) (y_move (ev_tv rfl ((hag6 1 rfl).trans rfl))) ?_
    refine L_val (v := .slice a_s1 a_s1l a_s1c) (y_move (ev_tv rfl ((hag6 0 rfl).trans rfl))) ?_
    refine L_val (v := .int .i64 v3) (y_move (ev_tv rfl rfl)) ?_
    obtain ⟨b6, o7, rfl, H⟩ := H
    obtain ⟨hi18, hi19, H⟩ := H
    refine L_val (v := .pointer (some ⟨b6, o7 + (v3 : Int).toNat, none⟩)) (y_ix1 Tryd.underlying38 Tryd.type3 rfl (ev_tv rfl rfl) (ev_tv rfl rfl) hi18 hi19) ?_
    obtain ⟨x8, hc20, H⟩ := H
    refine L_val (v := .int .i64 x8) (y_load Tryd.underlying3 rfl (ev_tv rfl rfl) hc20) ?_
    refine L_val (v := .bool (decide ((a_v2 : Int) = x8))) (y_ieq (ev_tv rfl rfl) (ev_tv rfl rfl)) ?_
    refine l_nil ?_
    refine then_norm ?_
    refine hK17 _ _ ?_
    clear hK17
    rcases (Decidable.em ((a_v2 : Int) = x8)) with hb21 | hb21
    · replace H := H.1 hb21
      have hq22 : Value.bool (decide ((a_v2 : Int) = x8)) = Value.bool true := congrArg Value.bool (decide_eq_true hb21)
      refine cond_t (ev_tv rfl hq22) ?_
      refine c_seq ?_
      intro K23 hK23
      refine c_region ?_
      refine L_val (v := .int .i64 v3) (y_move (ev_tv rfl rfl)) ?_
      refine L_val (v := .int .i64 v3) (y_assign (ev_tv rfl rfl)) ?_
      refine l_nil ?_
      refine then_norm ?_
      refine hK23 _ _ ?_
      clear hK23
      refine c_ret ?_
      refine block_ret ?_
      refine then_ret ?_
      refine then_ret ?_
      refine block_ret ?_
      refine then_ret ?_
      exact body_1 rfl (ev_tv rfl rfl) H
    · replace H := H.2 hb21
      have hq22 : Value.bool (decide ((a_v2 : Int) = x8)) = Value.bool false := congrArg Value.bool (decide_eq_false hb21)
      refine cond_f (ev_tv rfl hq22) ?_
      refine c_skip ?_
      refine block_norm ?_
      refine then_norm ?_
      refine hK15 _ _ ?_
      clear hK15
      refine c_region ?_
      obtain ⟨r9, hr24⟩ : ∃ r9 : Int, r9 = IntKind.wrap .i64 (v3 + 1) := ⟨_, rfl⟩
      replace H := H r9 hr24
      refine L_val (v := .int .i64 r9) (y_add (ev_tv rfl hs10) ev_c hr24) ?_
      refine L_val (v := .int .i64 r9) (y_move (ev_tv rfl rfl)) ?_
      refine l_nil ?_
      refine then_norm ?_
      obtain ⟨m10, hm25, H⟩ := H
      exact ⟨_, rfl, (by repeat (first | exact agree_refl | exact hag6 | refine agree_upd rfl ?_ | refine agree_via hag6 rfl ?_)), m10, hm25, _, rfl, H⟩
  · replace H := H.2 hb13
    have hq14 : Value.bool (decide ((v3 : Int) < ((a_s1l : Nat) : Int))) = Value.bool false := congrArg Value.bool (decide_eq_false hb13)
    refine cond_f (ev_tv rfl hq14) ?_
    refine c_exit ?_
    refine then_exit ?_
    refine then_exit ?_
    refine block_hit ?_
    refine then_norm ?_
    refine hK2 _ _ ?_
    clear hK2
    refine c_seq ?_
    intro K26 hK26
    refine c_region ?_
    refine L_val (v := .int .i64 (-1)) (y_assign ev_c) ?_
    refine l_nil ?_
    refine then_norm ?_
    refine hK26 _ _ ?_
    clear hK26
    refine c_ret ?_
    exact body_1 rfl (ev_tv rfl rfl) H

end Go.Proofs.YtimokldcmpbjcaaDoor
