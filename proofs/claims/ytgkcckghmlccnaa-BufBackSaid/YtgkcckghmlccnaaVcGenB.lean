/- For each Go function: what must be shown of it, and that this is enough. Printed by a program over the seat's translation. -/
import Derived.Test.YtgkcckghmlccnaaVcGenA
namespace Go.Proofs.Ytgkcckghmlccnaa
open Go Go.Vc
set_option maxRecDepth 100000
set_option linter.unusedVariables false
set_option maxHeartbeats 2000000

/-- (parapet/buf.Cache).Read -/
def Vc9 (a_c1 : Option Addr) (a_n2 : Int) (w : World) (R : Ending → World → Prop) : Prop :=
  (Calls Try.prog 21 #[.pointer a_c1] w fun e w4 => ∃ x3 : Bool, e = .returned (.bool x3) ∧ (((x3 = true) → (∃ (b6 o7 : Nat), a_c1 = some ⟨b6, o7, none⟩ ∧ (∃ x8 : Option Nat, World.cell? w4 ⟨b6, o7 + 2, none⟩ = some (.map x8) ∧ (∃ x9 : Option Addr, ∃ ok10 : Bool, (Instr.lookup 52 (.map x8) (.int .i64 a_n2) true).run Try.prog w4 = .ok (.tuple #[.pointer x9, .bool ok10]) w4 ∧ (((ok10 = true) → (∃ x11 : Int, World.cell? w4 ⟨b6, o7 + 4, none⟩ = some (.int .i64 x11) ∧ (∀ r12 : Int, r12 = IntKind.wrap .i64 (x11 + 1) → ((World.cell? w4 ⟨b6, o7 + 4, none⟩).isSome = true ∧ World.frozen? w4 ⟨b6, o7 + 4, none⟩ = false ∧ ∀ w13 : World, w13 = World.setCell w4 ⟨b6, o7 + 4, none⟩ (.int .i64 r12) → (Calls Try.prog 22 #[.pointer (some ⟨b6, o7, none⟩), .int .i64 a_n2] w13 fun e w14 => e = .returned (.tuple #[]) ∧ (∃ (b16 o17 : Nat), x9 = some ⟨b16, o17, none⟩ ∧ (∃ x18 : Option Addr, ∃ x18l : Nat, ∃ x18c : Nat, World.cell? w14 ⟨b16, o17, none⟩ = some (.slice x18 x18l x18c) ∧ (Calls Try.prog 23 #[.slice x18 x18l x18c] w14 fun e w20 => ∃ x19 : Option Addr, ∃ x19l : Nat, ∃ x19c : Nat, e = .returned (.slice x19 x19l x19c) ∧ R (.returned (.tuple #[.slice x19 x19l x19c, .int .i64 0])) w20)))))))) ∧ ((ok10 = false) → ((((a_n2 : Int) < 0) → R (.returned (.tuple #[.slice none 0 0, .int .i64 20])) w4) ∧ ((¬ ((a_n2 : Int) < 0)) → (∃ x22 : Option Addr, World.cell? w4 ⟨b6, o7, none⟩ = some (.pointer x22) ∧ (Calls Try.prog 24 #[.pointer x22] w4 fun e w24 => ∃ x23 : Int, e = .returned (.int .i64 x23) ∧ ((((x23 : Int) ≤ a_n2) → R (.returned (.tuple #[.slice none 0 0, .int .i64 20])) w24) ∧ ((¬ ((x23 : Int) ≤ a_n2)) → (Calls Try.prog 25 #[.pointer (some ⟨b6, o7, none⟩)] w24 fun e w27 => ∃ x26 : Bool, e = .returned (.bool x26) ∧ (((x26 = true) → (∃ x29 : Option Addr, World.cell? w27 ⟨b6, o7, none⟩ = some (.pointer x29) ∧ (Calls Try.prog 19 #[.pointer x29, .int .i64 a_n2] w27 fun e w32 => ∃ x30 : Option Addr, ∃ x30l : Nat, ∃ x30c : Nat, ∃ x31 : Int, e = .returned (.tuple #[.slice x30 x30l x30c, .int .i64 x31]) ∧ (((¬ ((x31 : Int) = 0)) → R (.returned (.tuple #[.slice none 0 0, .int .i64 x31])) w32) ∧ (((x31 : Int) = 0) → (∃ x34 : Int, World.cell? w32 ⟨b6, o7 + 4 + 1, none⟩ = some (.int .i64 x34) ∧ (∀ r35 : Int, r35 = IntKind.wrap .i64 (x34 + 1) → ((World.cell? w32 ⟨b6, o7 + 4 + 1, none⟩).isSome = true ∧ World.frozen? w32 ⟨b6, o7 + 4 + 1, none⟩ = false ∧ ∀ w36 : World, w36 = World.setCell w32 ⟨b6, o7 + 4 + 1, none⟩ (.int .i64 r35) → (∃ x37 : Option Nat, World.cell? (w36.drew) ⟨b6, o7 + 2, none⟩ = some (.map x37) ∧ (Calls Try.prog 23 #[.slice x30 x30l x30c] (w36.drew) fun e w39 => ∃ x38 : Option Addr, ∃ x38l : Nat, ∃ x38c : Nat, e = .returned (.slice x38 x38l x38c) ∧ (World.cell? w39 ⟨b6, o7 + 2, none⟩ = some (.map x37) ∧ (∀ (b40 : Nat) (w41 : World), b40 = World.heapSize w39 → w41 = World.alloc w39 (.cells #[.slice x38 x38l x38c, .bool false] 62) → (World.cell? w41 ⟨b6, o7 + 2, none⟩ = some (.map x37) ∧ (∃ w42 : World, (Instr.mapUpdate 52 (.map x37) (.int .i64 a_n2) (.pointer (some ⟨b40, 0, none⟩))).run Try.prog w41 = .ok () w42 ∧ (Calls Try.prog 22 #[.pointer (some ⟨b6, o7, none⟩), .int .i64 a_n2] w42 fun e w43 => e = .returned (.tuple #[]) ∧ R (.returned (.tuple #[.slice x30 x30l x30c, .int .i64 0])) w43))))))))))))))) ∧ ((x26 = false) → R (.returned (.tuple #[.slice none 0 0, .int .i64 150])) w27))))))))))))))) ∧ ((x3 = false) → R (.returned (.tuple #[.slice none 0 0, .int .i64 6])) w4)))

theorem vc9 {a_c1 : Option Addr} {a_n2 : Int} {w : World} {R : Ending → World → Prop} (H : Vc9 a_c1 a_n2 w R) : Calls Try.prog 9 #[.pointer a_c1, .int .i64 a_n2] w R := by
  unfold Vc9 at H
  refine calls_start [.pointer a_c1, .int .i64 a_n2] Try.func9 rfl Try.ntmps9 rfl ?_
  refine c_seq ?_
  intro K1 hK1
  refine c_region ?_
  refine L_val (v := .slice none 0 0) (y_assign ev_c) ?_
  refine L_val (v := .int .i64 0) (y_assign ev_c) ?_
  refine l_nil ?_
  refine then_norm ?_
  refine hK1 _ _ ?_
  clear hK1
  refine c_seq ?_
  intro K2 hK2
  refine c_seq ?_
  intro K3 hK3
  refine c_region ?_
  refine L_val (v := .pointer a_c1) (y_move (ev_tv rfl rfl)) ?_
  refine L_call (y_call Try.call21 (map_ev1 (ev_tv rfl rfl)) ev_f) (Calls.mono H ?_)
  clear H
  rintro _ w4 ⟨x3, rfl, H⟩
  refine ⟨_, rfl, ?_⟩
  rcases Bool.eq_false_or_eq_true x3 with hb4 | hb4
  · replace H := H.1 hb4
    have hq5 : Value.bool (x3) = Value.bool true := congrArg Value.bool hb4
    refine L_val (v := .bool false) (y_not_t (ev_tv rfl hq5)) ?_
    refine l_nil ?_
    refine then_norm ?_
    refine hK3 _ _ ?_
    clear hK3
    refine cond_f (ev_tv rfl rfl) ?_
    refine c_skip ?_
    refine then_norm ?_
    refine hK2 _ _ ?_
    clear hK2
    refine c_seq ?_
    intro K6 hK6
    refine c_seq ?_
    intro K7 hK7
    refine c_region ?_
    refine L_val (v := .pointer a_c1) (y_move (ev_tv rfl rfl)) ?_
    obtain ⟨b6, o7, rfl, H⟩ := H
    refine L_val (v := .pointer (some ⟨b6, o7, none⟩)) (y_nilCheck (ev_tv rfl rfl)) ?_
    refine L_val (v := .pointer (some ⟨b6, o7 + 2, none⟩)) (Try.fa56_2 (ev_tv rfl rfl)) ?_
    obtain ⟨x8, hc8, H⟩ := H
    refine L_val (v := .map x8) (y_load Try.underlying52 rfl (ev_tv rfl rfl) hc8) ?_
    refine L_val (v := .int .i64 a_n2) (y_move (ev_tv rfl rfl)) ?_
    obtain ⟨x9, ok10, hc9, H⟩ := H
    refine L_val (v := .tuple #[.pointer x9, .bool ok10]) (y_lookup (ev_tv rfl rfl) (ev_tv rfl rfl) hc9) ?_
    refine L_val (v := .tuple #[.pointer x9, .bool ok10]) (y_move (ev_tv rfl rfl)) ?_
    refine L_val (v := .pointer x9) (y_extract (ev_tv rfl rfl) rfl) ?_
    refine L_val (v := .bool ok10) (y_extract (ev_tv rfl rfl) rfl) ?_
    refine L_val (v := .pointer x9) (y_assign (ev_tv rfl rfl)) ?_
    refine L_val (v := .bool ok10) (y_assign (ev_tv rfl rfl)) ?_
    refine l_nil ?_
    refine then_norm ?_
    refine hK7 _ _ ?_
    clear hK7
    refine c_seq ?_
    intro K10 hK10
    refine c_region ?_
    refine L_val (v := .bool ok10) (y_move (ev_tv rfl rfl)) ?_
    refine l_nil ?_
    refine then_norm ?_
    refine hK10 _ _ ?_
    clear hK10
    rcases Bool.eq_false_or_eq_true ok10 with hb11 | hb11
    · replace H := H.1 hb11
      have hq12 : Value.bool (ok10) = Value.bool true := congrArg Value.bool hb11
      refine cond_t (ev_tv rfl hq12) ?_
      refine c_seq ?_
      intro K13 hK13
      refine c_region ?_
      refine L_val (v := .pointer (some ⟨b6, o7, none⟩)) (y_move (ev_tv rfl rfl)) ?_
      refine L_val (v := .pointer (some ⟨b6, o7, none⟩)) (y_nilCheck (ev_tv rfl rfl)) ?_
      refine L_val (v := .pointer (some ⟨b6, o7 + 4, none⟩)) (Try.fa56_4 (ev_tv rfl rfl)) ?_
      refine L_val (v := .pointer (some ⟨b6, o7 + 4, none⟩)) (Try.fa54_0 (ev_tv rfl rfl)) ?_
      obtain ⟨x11, hc14, H⟩ := H
      refine L_val (v := .int .i64 x11) (y_load Try.underlying3 rfl (ev_tv rfl rfl) hc14) ?_
      obtain ⟨r12, hr15⟩ : ∃ r12 : Int, r12 = IntKind.wrap .i64 (x11 + 1) := ⟨_, rfl⟩
      replace H := H r12 hr15
      refine L_val (v := .int .i64 r12) (y_add (ev_tv rfl rfl) ev_c hr15) ?_
      refine L_val (v := .pointer (some ⟨b6, o7, none⟩)) (y_nilCheck (ev_tv rfl rfl)) ?_
      refine L_val (v := .pointer (some ⟨b6, o7 + 4, none⟩)) (Try.fa56_4 (ev_tv rfl rfl)) ?_
      refine L_val (v := .pointer (some ⟨b6, o7 + 4, none⟩)) (Try.fa54_0 (ev_tv rfl rfl)) ?_
      obtain ⟨hc16, hf17, H⟩ := H
      obtain ⟨w13, hw18⟩ : ∃ w13 : World, w13 = World.setCell w4 ⟨b6, o7 + 4, none⟩ (.int .i64 r12) := ⟨_, rfl⟩
      replace H := H w13 hw18
      refine L_skip (y_store Try.type3 rfl rfl (ev_tv rfl rfl) (ev_tv rfl rfl) hc16 hf17 hw18) ?_
      refine l_nil ?_
      refine then_norm ?_
      refine hK13 _ _ ?_
      clear hK13
      refine c_seq ?_
      intro K19 hK19
      refine c_region ?_
      refine L_val (v := .pointer (some ⟨b6, o7, none⟩)) (y_move (ev_tv rfl rfl)) ?_
      refine L_val (v := .int .i64 a_n2) (y_move (ev_tv rfl rfl)) ?_
      refine L_call (y_call Try.call22 (map_ev2 (ev_tv rfl rfl) (ev_tv rfl rfl)) ev_f) (Calls.mono H ?_)
      clear H
      rintro _ w14 ⟨rfl, H⟩
      refine ⟨_, rfl, ?_⟩
      refine l_nil ?_
      refine then_norm ?_
      refine hK19 _ _ ?_
      clear hK19
      refine c_seq ?_
      intro K20 hK20
      refine c_region ?_
      refine L_val (v := .pointer x9) (y_move (ev_tv rfl rfl)) ?_
      obtain ⟨b16, o17, rfl, H⟩ := H
      refine L_val (v := .pointer (some ⟨b16, o17, none⟩)) (y_nilCheck (ev_tv rfl rfl)) ?_
      refine L_val (v := .pointer (some ⟨b16, o17, none⟩)) (Try.fa62_0 (ev_tv rfl rfl)) ?_
      obtain ⟨x18, x18l, x18c, hc21, H⟩ := H
      refine L_val (v := .slice x18 x18l x18c) (y_load Try.underlying33 rfl (ev_tv rfl rfl) hc21) ?_
      refine L_call (y_call Try.call23 (map_ev1 (ev_tv rfl rfl)) ev_f) (Calls.mono H ?_)
      clear H
      rintro _ w20 ⟨x19, x19l, x19c, rfl, H⟩
      refine ⟨_, rfl, ?_⟩
      refine L_val (v := .slice x19 x19l x19c) (y_assign (ev_tv rfl rfl)) ?_
      refine L_val (v := .int .i64 0) (y_assign ev_c) ?_
      refine l_nil ?_
      refine then_norm ?_
      refine hK20 _ _ ?_
      clear hK20
      refine c_ret ?_
      refine then_ret ?_
      exact body_2 rfl (ev_tv rfl rfl) (ev_tv rfl rfl) H
    · replace H := H.2 hb11
      have hq12 : Value.bool (ok10) = Value.bool false := congrArg Value.bool hb11
      refine cond_f (ev_tv rfl hq12) ?_
      refine c_skip ?_
      refine then_norm ?_
      refine hK6 _ _ ?_
      clear hK6
      refine c_seq ?_
      intro K22 hK22
      refine c_seq ?_
      intro K23 hK23
      refine c_region ?_
      refine L_val (v := .int .i64 a_n2) (y_move (ev_tv rfl rfl)) ?_
      refine L_val (v := .bool (decide ((a_n2 : Int) < 0))) (y_lss (ev_tv rfl rfl) ev_c) ?_
      refine L_val (v := .bool (decide ((a_n2 : Int) < 0))) (y_move (ev_tv rfl rfl)) ?_
      rcases (Decidable.em ((a_n2 : Int) < 0)) with hb24 | hb24
      · replace H := H.1 hb24
        have hq25 : Value.bool (decide ((a_n2 : Int) < 0)) = Value.bool true := congrArg Value.bool (decide_eq_true hb24)
        refine G_not (b' := true) (dj := 42) rfl rfl hq25 rfl ?_
        refine G_not (b' := true) (dj := 42) rfl rfl hq25 rfl ?_
        refine G_not (b' := true) (dj := 42) rfl rfl hq25 rfl ?_
        refine G_not (b' := true) (dj := 42) rfl rfl hq25 rfl ?_
        refine G_not (b' := true) (dj := 42) rfl rfl hq25 rfl ?_
        refine G_not (b' := true) (dj := 42) rfl rfl hq25 rfl ?_
        refine G_not (b' := true) (dj := 42) rfl rfl hq25 rfl ?_
        refine L_val (v := .bool true) (y_pick_t (ev_tv rfl hq25) ev_c) ?_
        refine l_nil ?_
        refine then_norm ?_
        refine hK23 _ _ ?_
        clear hK23
        refine cond_t (ev_tv rfl rfl) ?_
        refine c_seq ?_
        intro K26 hK26
        refine c_region ?_
        refine L_val (v := .slice none 0 0) (y_assign ev_c) ?_
        refine L_val (v := .int .i64 20) (y_assign ev_c) ?_
        refine l_nil ?_
        refine then_norm ?_
        refine hK26 _ _ ?_
        clear hK26
        refine c_ret ?_
        refine then_ret ?_
        exact body_2 rfl (ev_tv rfl rfl) (ev_tv rfl rfl) H
      · replace H := H.2 hb24
        have hq25 : Value.bool (decide ((a_n2 : Int) < 0)) = Value.bool false := congrArg Value.bool (decide_eq_false hb24)
        refine G_val (dj := 42) rfl rfl hq25 (v := .int .i64 a_n2) (y_move (ev_tv rfl rfl)) ?_
        refine G_val (dj := 42) rfl rfl hq25 (v := .pointer (some ⟨b6, o7, none⟩)) (y_move (ev_tv rfl rfl)) ?_
        refine G_val (dj := 42) rfl rfl hq25 (v := .pointer (some ⟨b6, o7, none⟩)) (y_nilCheck (ev_tv rfl rfl)) ?_
        refine G_val (dj := 42) rfl rfl hq25 (v := .pointer (some ⟨b6, o7, none⟩)) (Try.fa56_0 (ev_tv rfl rfl)) ?_
        obtain ⟨x22, hc27, H⟩ := H
        refine G_val (dj := 42) rfl rfl hq25 (v := .pointer x22) (y_load Try.underlying23 rfl (ev_tv rfl rfl) hc27) ?_
        refine G_call (dj := 42) rfl rfl hq25 (y_call Try.call24 (map_ev1 (ev_tv rfl rfl)) ev_f) (Calls.mono H ?_)
        clear H
        rintro _ w24 ⟨x23, rfl, H⟩
        refine ⟨_, rfl, ?_⟩
        refine G_val (dj := 42) rfl rfl hq25 (v := .bool (decide ((x23 : Int) ≤ a_n2))) (y_geq (ev_tv rfl rfl) (ev_tv rfl rfl)) ?_
        refine L_val (v := .bool (decide ((x23 : Int) ≤ a_n2))) (y_pick_f (ev_tv rfl hq25) (ev_tv rfl rfl)) ?_
        refine l_nil ?_
        refine then_norm ?_
        refine hK23 _ _ ?_
        clear hK23
        rcases (Decidable.em ((x23 : Int) ≤ a_n2)) with hb28 | hb28
        · replace H := H.1 hb28
          have hq29 : Value.bool (decide ((x23 : Int) ≤ a_n2)) = Value.bool true := congrArg Value.bool (decide_eq_true hb28)
          refine cond_t (ev_tv rfl hq29) ?_
          refine c_seq ?_
          intro K30 hK30
          refine c_region ?_
          refine L_val (v := .slice none 0 0) (y_assign ev_c) ?_
          refine L_val (v := .int .i64 20) (y_assign ev_c) ?_
          refine l_nil ?_
          refine then_norm ?_
          refine hK30 _ _ ?_
          clear hK30
          refine c_ret ?_
          refine then_ret ?_
          exact body_2 rfl (ev_tv rfl rfl) (ev_tv rfl rfl) H
        · replace H := H.2 hb28
          have hq29 : Value.bool (decide ((x23 : Int) ≤ a_n2)) = Value.bool false := congrArg Value.bool (decide_eq_false hb28)
          refine cond_f (ev_tv rfl hq29) ?_
          refine c_skip ?_
          refine then_norm ?_
          refine hK22 _ _ ?_
          clear hK22
          refine c_seq ?_
          intro K31 hK31
          refine c_seq ?_
          intro K32 hK32
          refine c_region ?_
          refine L_val (v := .pointer (some ⟨b6, o7, none⟩)) (y_move (ev_tv rfl rfl)) ?_
          refine L_call (y_call Try.call25 (map_ev1 (ev_tv rfl rfl)) ev_f) (Calls.mono H ?_)
          clear H
          rintro _ w27 ⟨x26, rfl, H⟩
          refine ⟨_, rfl, ?_⟩
          rcases Bool.eq_false_or_eq_true x26 with hb33 | hb33
          · replace H := H.1 hb33
            have hq34 : Value.bool (x26) = Value.bool true := congrArg Value.bool hb33
            refine L_val (v := .bool false) (y_not_t (ev_tv rfl hq34)) ?_
            refine l_nil ?_
            refine then_norm ?_
            refine hK32 _ _ ?_
            clear hK32
            refine cond_f (ev_tv rfl rfl) ?_
            refine c_skip ?_
            refine then_norm ?_
            refine hK31 _ _ ?_
            clear hK31
            refine c_seq ?_
            intro K35 hK35
            refine c_region ?_
            refine L_val (v := .pointer (some ⟨b6, o7, none⟩)) (y_move (ev_tv rfl rfl)) ?_
            refine L_val (v := .pointer (some ⟨b6, o7, none⟩)) (y_nilCheck (ev_tv rfl rfl)) ?_
            refine L_val (v := .pointer (some ⟨b6, o7, none⟩)) (Try.fa56_0 (ev_tv rfl rfl)) ?_
            obtain ⟨x29, hc36, H⟩ := H
            refine L_val (v := .pointer x29) (y_load Try.underlying23 rfl (ev_tv rfl rfl) hc36) ?_
            refine L_val (v := .int .i64 a_n2) (y_move (ev_tv rfl rfl)) ?_
            refine L_call (y_call Try.call19 (map_ev2 (ev_tv rfl rfl) (ev_tv rfl rfl)) ev_f) (Calls.mono H ?_)
            clear H
            rintro _ w32 ⟨x30, x30l, x30c, x31, rfl, H⟩
            refine ⟨_, rfl, ?_⟩
            refine L_val (v := .tuple #[.slice x30 x30l x30c, .int .i64 x31]) (y_move (ev_tv rfl rfl)) ?_
            refine L_val (v := .slice x30 x30l x30c) (y_extract (ev_tv rfl rfl) rfl) ?_
            refine L_val (v := .int .i64 x31) (y_extract (ev_tv rfl rfl) rfl) ?_
            refine L_val (v := .slice x30 x30l x30c) (y_assign (ev_tv rfl rfl)) ?_
            refine L_val (v := .int .i64 x31) (y_assign (ev_tv rfl rfl)) ?_
            refine l_nil ?_
            refine then_norm ?_
            refine hK35 _ _ ?_
            clear hK35
            refine c_seq ?_
            intro K37 hK37
            refine c_seq ?_
            intro K38 hK38
            refine c_region ?_
            refine L_val (v := .int .i64 x31) (y_move (ev_tv rfl rfl)) ?_
            refine L_val (v := .bool (!decide ((x31 : Int) = 0))) (y_ine (ev_tv rfl rfl) ev_c) ?_
            refine l_nil ?_
            refine then_norm ?_
            refine hK38 _ _ ?_
            clear hK38
            rcases (Decidable.em ((x31 : Int) = 0)).symm with hb39 | hb39
            · replace H := H.1 hb39
              have hq40 : Value.bool (!decide ((x31 : Int) = 0)) = Value.bool true := congrArg Value.bool (ndec_t hb39)
              refine cond_t (ev_tv rfl hq40) ?_
              refine c_seq ?_
              intro K41 hK41
              refine c_region ?_
              refine L_val (v := .int .i64 x31) (y_move (ev_tv rfl rfl)) ?_
              refine L_val (v := .slice none 0 0) (y_assign ev_c) ?_
              refine L_val (v := .int .i64 x31) (y_assign (ev_tv rfl rfl)) ?_
              refine l_nil ?_
              refine then_norm ?_
              refine hK41 _ _ ?_
              clear hK41
              refine c_ret ?_
              refine then_ret ?_
              exact body_2 rfl (ev_tv rfl rfl) (ev_tv rfl rfl) H
            · replace H := H.2 hb39
              have hq40 : Value.bool (!decide ((x31 : Int) = 0)) = Value.bool false := congrArg Value.bool (ndec_f hb39)
              refine cond_f (ev_tv rfl hq40) ?_
              refine c_skip ?_
              refine then_norm ?_
              refine hK37 _ _ ?_
              clear hK37
              refine c_seq ?_
              intro K42 hK42
              refine c_region ?_
              refine L_val (v := .pointer (some ⟨b6, o7, none⟩)) (y_move (ev_tv rfl rfl)) ?_
              refine L_val (v := .pointer (some ⟨b6, o7, none⟩)) (y_nilCheck (ev_tv rfl rfl)) ?_
              refine L_val (v := .pointer (some ⟨b6, o7 + 4, none⟩)) (Try.fa56_4 (ev_tv rfl rfl)) ?_
              refine L_val (v := .pointer (some ⟨b6, o7 + 4 + 1, none⟩)) (Try.fa54_1 (ev_tv rfl rfl)) ?_
              obtain ⟨x34, hc43, H⟩ := H
              refine L_val (v := .int .i64 x34) (y_load Try.underlying3 rfl (ev_tv rfl rfl) hc43) ?_
              obtain ⟨r35, hr44⟩ : ∃ r35 : Int, r35 = IntKind.wrap .i64 (x34 + 1) := ⟨_, rfl⟩
              replace H := H r35 hr44
              refine L_val (v := .int .i64 r35) (y_add (ev_tv rfl rfl) ev_c hr44) ?_
              refine L_val (v := .pointer (some ⟨b6, o7, none⟩)) (y_nilCheck (ev_tv rfl rfl)) ?_
              refine L_val (v := .pointer (some ⟨b6, o7 + 4, none⟩)) (Try.fa56_4 (ev_tv rfl rfl)) ?_
              refine L_val (v := .pointer (some ⟨b6, o7 + 4 + 1, none⟩)) (Try.fa54_1 (ev_tv rfl rfl)) ?_
              obtain ⟨hc45, hf46, H⟩ := H
              obtain ⟨w36, hw47⟩ : ∃ w36 : World, w36 = World.setCell w32 ⟨b6, o7 + 4 + 1, none⟩ (.int .i64 r35) := ⟨_, rfl⟩
              replace H := H w36 hw47
              refine L_skip (y_store Try.type3 rfl rfl (ev_tv rfl rfl) (ev_tv rfl rfl) hc45 hf46 hw47) ?_
              refine l_nil ?_
              refine then_norm ?_
              refine hK42 _ _ ?_
              clear hK42
              refine c_seq ?_
              intro K48 hK48
              refine D_start Try.mixed rfl [6, 8, 9] ?_
              refine start_keep fun hS => ?_
              refine D_pure (i := 0) (v := .pointer (some ⟨b6, o7, none⟩)) rfl (by kernel_rfl) (W_none rfl) (fun _ => y_move (ev_tv rfl rfl)) hS ?_
              intro hS
              refine D_pure (i := 1) (v := .pointer (some ⟨b6, o7, none⟩)) rfl (by kernel_rfl) (W_none rfl) (fun _ => y_nilCheck (ev_tv rfl rfl)) hS ?_
              intro hS
              refine D_pure (i := 2) (v := .pointer (some ⟨b6, o7 + 2, none⟩)) rfl (by kernel_rfl) (W_none rfl) (fun _ => Try.fa56_2 (ev_tv rfl rfl)) hS ?_
              intro hS
              refine D_pure (i := 4) (v := .int .i64 a_n2) rfl (by kernel_rfl) (W_none rfl) (fun _ => y_move (ev_tv rfl rfl)) hS ?_
              intro hS
              refine D_pure (i := 5) (v := .slice x30 x30l x30c) rfl (by kernel_rfl) (W_none rfl) (fun _ => y_move (ev_tv rfl rfl)) hS ?_
              intro hS
              obtain ⟨x37, hc49, H⟩ := H
              refine D_read (i := 3) (v := .map x37) rfl (by kernel_rfl) (W_none rfl) (fun wx => World.cell? wx ⟨b6, o7 + 2, none⟩ = some (.map x37)) hc49 (fun _ hcx => y_load Try.underlying52 rfl (ev_tv rfl rfl) hcx) hS ?_
              intro hS
              refine D_only (i := 6) (by kernel_rfl) rfl ?_
              refine O_call (i := 6) rfl (W_none rfl) (y_call Try.call23 (map_ev1 (ev_tv rfl rfl)) ev_f) (Calls.mono H ?_)
              clear H
              rintro _ w39 ⟨x38, x38l, x38c, rfl, H⟩
              refine ⟨_, rfl, ?_⟩
              obtain ⟨hs56, H⟩ := H
              refine and_keep (SS_on hs56 SS_nil) fun hS => ?_
              refine D_pure (i := 7) (v := .agg #[.slice x38 x38l x38c, .bool false]) rfl (by kernel_rfl) (W_none rfl) (fun _ => y_build (parts_ev1 (ev_tv rfl rfl)) (by kernel_rfl)) hS ?_
              intro hS
              refine D_only (i := 8) (by kernel_rfl) rfl ?_
              obtain ⟨b40, hb50⟩ : ∃ b40 : Nat, b40 = World.heapSize w39 := ⟨_, rfl⟩
              obtain ⟨w41, hw51⟩ : ∃ w41 : World, w41 = World.alloc w39 (.cells #[.slice x38 x38l x38c, .bool false] 62) := ⟨_, rfl⟩
              replace H := H b40 w41 hb50 hw51
              refine O_val (i := 8) (v := .pointer (some ⟨b40, 0, none⟩)) rfl (W_none rfl) (y_box (ev_tv rfl rfl) rfl hb50 hw51) ?_
              obtain ⟨hs55, H⟩ := H
              refine and_keep (SS_on hs55 SS_nil) fun hS => ?_
              refine D_only (i := 9) (by kernel_rfl) rfl ?_
              obtain ⟨w42, hw52, H⟩ := H
              refine O_skip (i := 9) rfl (W_none rfl) (y_mapUpdate (ev_tv rfl rfl) (ev_tv rfl rfl) (ev_tv rfl rfl) hw52) ?_
              refine and_keep (SS_off (by kernel_rfl) SS_nil) fun hS => ?_
              refine D_done (by kernel_rfl) ?_
              refine then_norm ?_
              refine hK48 _ _ ?_
              clear hK48
              refine c_seq ?_
              intro K53 hK53
              refine c_region ?_
              refine L_val (v := .pointer (some ⟨b6, o7, none⟩)) (y_move (ev_tv rfl rfl)) ?_
              refine L_val (v := .int .i64 a_n2) (y_move (ev_tv rfl rfl)) ?_
              refine L_call (y_call Try.call22 (map_ev2 (ev_tv rfl rfl) (ev_tv rfl rfl)) ev_f) (Calls.mono H ?_)
              clear H
              rintro _ w43 ⟨rfl, H⟩
              refine ⟨_, rfl, ?_⟩
              refine l_nil ?_
              refine then_norm ?_
              refine hK53 _ _ ?_
              clear hK53
              refine c_seq ?_
              intro K54 hK54
              refine c_region ?_
              refine L_val (v := .slice x30 x30l x30c) (y_move (ev_tv rfl rfl)) ?_
              refine L_val (v := .slice x30 x30l x30c) (y_assign (ev_tv rfl rfl)) ?_
              refine L_val (v := .int .i64 0) (y_assign ev_c) ?_
              refine l_nil ?_
              refine then_norm ?_
              refine hK54 _ _ ?_
              clear hK54
              refine c_ret ?_
              exact body_2 rfl (ev_tv rfl rfl) (ev_tv rfl rfl) H
          · replace H := H.2 hb33
            have hq34 : Value.bool (x26) = Value.bool false := congrArg Value.bool hb33
            refine L_val (v := .bool true) (y_not_f (ev_tv rfl hq34)) ?_
            refine l_nil ?_
            refine then_norm ?_
            refine hK32 _ _ ?_
            clear hK32
            refine cond_t (ev_tv rfl rfl) ?_
            refine c_seq ?_
            intro K57 hK57
            refine c_region ?_
            refine L_val (v := .slice none 0 0) (y_assign ev_c) ?_
            refine L_val (v := .int .i64 150) (y_assign ev_c) ?_
            refine l_nil ?_
            refine then_norm ?_
            refine hK57 _ _ ?_
            clear hK57
            refine c_ret ?_
            refine then_ret ?_
            exact body_2 rfl (ev_tv rfl rfl) (ev_tv rfl rfl) H
  · replace H := H.2 hb4
    have hq5 : Value.bool (x3) = Value.bool false := congrArg Value.bool hb4
    refine L_val (v := .bool true) (y_not_f (ev_tv rfl hq5)) ?_
    refine l_nil ?_
    refine then_norm ?_
    refine hK3 _ _ ?_
    clear hK3
    refine cond_t (ev_tv rfl rfl) ?_
    refine c_seq ?_
    intro K58 hK58
    refine c_region ?_
    refine L_val (v := .slice none 0 0) (y_assign ev_c) ?_
    refine L_val (v := .int .i64 6) (y_assign ev_c) ?_
    refine l_nil ?_
    refine then_norm ?_
    refine hK58 _ _ ?_
    clear hK58
    refine c_ret ?_
    refine then_ret ?_
    exact body_2 rfl (ev_tv rfl rfl) (ev_tv rfl rfl) H

/-- parapet/parapetlaw15.sameBytes -/
def Vc10 (a_a1 : Option Addr) (a_a1l : Nat) (a_a1c : Nat) (a_b2 : Option Addr) (a_b2l : Nat) (a_b2c : Nat) (w : World) (R : Ending → World → Prop) : Prop :=
  (((¬ ((((a_a1l : Nat) : Int) : Int) = ((a_b2l : Nat) : Int))) → R (.returned (.bool false)) w) ∧ (((((a_a1l : Nat) : Int) : Int) = ((a_b2l : Nat) : Int)) → (∃ I9 : Nat → Int → World → Prop, (∃ m, I9 m 0 w) ∧ ∀ (m4 : Nat) (v3 : Int) (w5 : World), I9 m4 v3 w5 → ((((v3 : Int) < ((a_a1l : Nat) : Int)) → (∃ (b6 o7 : Nat), a_a1 = some ⟨b6, o7, none⟩ ∧ ((0 : Int) ≤ v3 ∧ v3 < ((a_a1l : Nat) : Int) ∧ (∃ (b8 o9 : Nat), a_b2 = some ⟨b8, o9, none⟩ ∧ ((0 : Int) ≤ v3 ∧ v3 < ((a_b2l : Nat) : Int) ∧ (∃ x10 : Int, World.cell? (w5.drew) ⟨b6, o7 + (v3 : Int).toNat, none⟩ = some (.int .u8 x10) ∧ (∃ x11 : Int, World.cell? (w5.drew) ⟨b8, o9 + (v3 : Int).toNat, none⟩ = some (.int .u8 x11) ∧ (((¬ ((x10 : Int) = x11)) → R (.returned (.bool false)) (w5.drew)) ∧ (((x10 : Int) = x11) → (∀ r12 : Int, r12 = IntKind.wrap .i64 (v3 + 1) → (∃ m13, m13 < m4 ∧ I9 m13 r12 (w5.drew)))))))))))) ∧ ((¬ ((v3 : Int) < ((a_a1l : Nat) : Int))) → R (.returned (.bool true)) w5)))))

theorem vc10 {a_a1 : Option Addr} {a_a1l : Nat} {a_a1c : Nat} {a_b2 : Option Addr} {a_b2l : Nat} {a_b2c : Nat} {w : World} {R : Ending → World → Prop} (H : Vc10 a_a1 a_a1l a_a1c a_b2 a_b2l a_b2c w R) : Calls Try.prog 10 #[.slice a_a1 a_a1l a_a1c, .slice a_b2 a_b2l a_b2c] w R := by
  unfold Vc10 at H
  refine calls_start [.slice a_a1 a_a1l a_a1c, .slice a_b2 a_b2l a_b2c] Try.func10 rfl Try.ntmps10 rfl ?_
  refine c_seq ?_
  intro K1 hK1
  refine c_region ?_
  refine L_val (v := .bool false) (y_assign ev_c) ?_
  refine l_nil ?_
  refine then_norm ?_
  refine hK1 _ _ ?_
  clear hK1
  refine c_seq ?_
  intro K2 hK2
  refine c_seq ?_
  intro K3 hK3
  refine c_region ?_
  refine L_val (v := .slice a_a1 a_a1l a_a1c) (y_move (ev_tv rfl rfl)) ?_
  refine L_val (v := .int .i64 ((a_a1l : Nat) : Int)) (y_len Try.underlying33 rfl (map_ev1 (ev_tv rfl rfl))) ?_
  refine L_val (v := .slice a_b2 a_b2l a_b2c) (y_move (ev_tv rfl rfl)) ?_
  refine L_val (v := .int .i64 ((a_b2l : Nat) : Int)) (y_len Try.underlying33 rfl (map_ev1 (ev_tv rfl rfl))) ?_
  refine L_val (v := .bool (!decide ((((a_a1l : Nat) : Int) : Int) = ((a_b2l : Nat) : Int)))) (y_ine (ev_tv rfl rfl) (ev_tv rfl rfl)) ?_
  refine l_nil ?_
  refine then_norm ?_
  refine hK3 _ _ ?_
  clear hK3
  rcases (Decidable.em ((((a_a1l : Nat) : Int) : Int) = ((a_b2l : Nat) : Int))).symm with hb4 | hb4
  · replace H := H.1 hb4
    have hq5 : Value.bool (!decide ((((a_a1l : Nat) : Int) : Int) = ((a_b2l : Nat) : Int))) = Value.bool true := congrArg Value.bool (ndec_t hb4)
    refine cond_t (ev_tv rfl hq5) ?_
    refine c_seq ?_
    intro K6 hK6
    refine c_region ?_
    refine L_val (v := .bool false) (y_assign ev_c) ?_
    refine l_nil ?_
    refine then_norm ?_
    refine hK6 _ _ ?_
    clear hK6
    refine c_ret ?_
    refine then_ret ?_
    exact body_1 rfl (ev_tv rfl rfl) H
  · replace H := H.2 hb4
    have hq5 : Value.bool (!decide ((((a_a1l : Nat) : Int) : Int) = ((a_b2l : Nat) : Int))) = Value.bool false := congrArg Value.bool (ndec_f hb4)
    refine cond_f (ev_tv rfl hq5) ?_
    refine c_skip ?_
    refine then_norm ?_
    refine hK2 _ _ ?_
    clear hK2
    refine c_seq ?_
    intro K7 hK7
    refine c_seq ?_
    intro K8 hK8
    refine c_region ?_
    refine L_val (v := .int .i64 0) (y_assign ev_c) ?_
    refine l_nil ?_
    refine then_norm ?_
    refine hK8 _ _ ?_
    clear hK8
    refine c_block ?_
    obtain ⟨I9, ⟨m13, HI14⟩, H⟩ := H
    refine loop_fr ([(4, 5), (11, 25)]) (fun m ff ww => ∃ (v3 : Int), ff 5 = (.int .i64 v3 : Value) ∧ I9 m v3 ww) m13 ⟨0, rfl, HI14⟩ ?_
    rintro m4 f10 w5 hag11 ⟨v3, hs15, HI12⟩
    replace H := H m4 v3 w5 HI12
    refine c_seq ?_
    intro K16 hK16
    refine c_seq ?_
    intro K17 hK17
    refine c_region ?_
    refine L_val (v := .int .i64 v3) (y_move (ev_tv rfl hs15)) ?_
    refine L_val (v := .slice a_a1 a_a1l a_a1c) (y_move (ev_tv rfl ((hag11 0 rfl).trans rfl))) ?_
    refine L_val (v := .int .i64 ((a_a1l : Nat) : Int)) (y_len Try.underlying33 rfl (map_ev1 (ev_tv rfl rfl))) ?_
    refine L_val (v := .bool (decide ((v3 : Int) < ((a_a1l : Nat) : Int)))) (y_lss (ev_tv rfl rfl) (ev_tv rfl rfl)) ?_
    refine l_nil ?_
    refine then_norm ?_
    refine hK17 _ _ ?_
    clear hK17
    rcases (Decidable.em ((v3 : Int) < ((a_a1l : Nat) : Int))) with hb18 | hb18
    · replace H := H.1 hb18
      have hq19 : Value.bool (decide ((v3 : Int) < ((a_a1l : Nat) : Int))) = Value.bool true := congrArg Value.bool (decide_eq_true hb18)
      refine cond_t (ev_tv rfl hq19) ?_
      refine c_skip ?_
      refine then_norm ?_
      refine hK16 _ _ ?_
      clear hK16
      refine c_seq ?_
      intro K20 hK20
      refine c_block ?_
      refine c_seq ?_
      intro K21 hK21
      refine D_start Try.mixed rfl [] ?_
      refine start_keep fun hS => ?_
      refine D_pure (i := 0) (v := .slice a_a1 a_a1l a_a1c) rfl (by kernel_rfl) (W_none rfl) (fun _ => y_move (ev_tv rfl ((hag11 0 rfl).trans rfl))) hS ?_
      intro hS
      refine D_pure (i := 1) (v := .int .i64 v3) rfl (by kernel_rfl) (W_none rfl) (fun _ => y_move (ev_tv rfl hs15)) hS ?_
      intro hS
      obtain ⟨b6, o7, rfl, H⟩ := H
      obtain ⟨hi22, hi23, H⟩ := H
      refine D_pure (i := 2) (v := .pointer (some ⟨b6, o7 + (v3 : Int).toNat, none⟩)) rfl (by kernel_rfl) (W_none rfl) (fun _ => y_ix1 Try.underlying33 Try.type5 rfl (ev_tv rfl rfl) (ev_tv rfl rfl) hi22 hi23) hS ?_
      intro hS
      refine D_pure (i := 4) (v := .slice a_b2 a_b2l a_b2c) rfl (by kernel_rfl) (W_none rfl) (fun _ => y_move (ev_tv rfl ((hag11 1 rfl).trans rfl))) hS ?_
      intro hS
      refine D_pure (i := 5) (v := .int .i64 v3) rfl (by kernel_rfl) (W_none rfl) (fun _ => y_move (ev_tv rfl hs15)) hS ?_
      intro hS
      obtain ⟨b8, o9, rfl, H⟩ := H
      obtain ⟨hi24, hi25, H⟩ := H
      refine D_pure (i := 6) (v := .pointer (some ⟨b8, o9 + (v3 : Int).toNat, none⟩)) rfl (by kernel_rfl) (W_none rfl) (fun _ => y_ix1 Try.underlying33 Try.type5 rfl (ev_tv rfl rfl) (ev_tv rfl rfl) hi24 hi25) hS ?_
      intro hS
      obtain ⟨x10, hc26, H⟩ := H
      refine D_read (i := 3) (v := .int .u8 x10) rfl (by kernel_rfl) (W_none rfl) (fun wx => World.cell? wx ⟨b6, o7 + (v3 : Int).toNat, none⟩ = some (.int .u8 x10)) hc26 (fun _ hcx => y_load Try.underlying5 rfl (ev_tv rfl rfl) hcx) hS ?_
      intro hS
      obtain ⟨x11, hc27, H⟩ := H
      refine D_read (i := 7) (v := .int .u8 x11) rfl (by kernel_rfl) (W_none rfl) (fun wx => World.cell? wx ⟨b8, o9 + (v3 : Int).toNat, none⟩ = some (.int .u8 x11)) hc27 (fun _ hcx => y_load Try.underlying5 rfl (ev_tv rfl rfl) hcx) hS ?_
      intro hS
      refine D_pure (i := 8) (v := .bool (!decide ((x10 : Int) = x11))) rfl (by kernel_rfl) (W_none rfl) (fun _ => y_ine (ev_tv rfl rfl) (ev_tv rfl rfl)) hS ?_
      intro hS
      refine D_done (by kernel_rfl) ?_
      refine then_norm ?_
      refine hK21 _ _ ?_
      clear hK21
      rcases (Decidable.em ((x10 : Int) = x11)).symm with hb28 | hb28
      · replace H := H.1 hb28
        have hq29 : Value.bool (!decide ((x10 : Int) = x11)) = Value.bool true := congrArg Value.bool (ndec_t hb28)
        refine cond_t (ev_tv rfl hq29) ?_
        refine c_seq ?_
        intro K30 hK30
        refine c_region ?_
        refine L_val (v := .bool false) (y_assign ev_c) ?_
        refine l_nil ?_
        refine then_norm ?_
        refine hK30 _ _ ?_
        clear hK30
        refine c_ret ?_
        refine block_ret ?_
        refine then_ret ?_
        refine then_ret ?_
        refine block_ret ?_
        refine then_ret ?_
        exact body_1 rfl (ev_tv rfl rfl) H
      · replace H := H.2 hb28
        have hq29 : Value.bool (!decide ((x10 : Int) = x11)) = Value.bool false := congrArg Value.bool (ndec_f hb28)
        refine cond_f (ev_tv rfl hq29) ?_
        refine c_skip ?_
        refine block_norm ?_
        refine then_norm ?_
        refine hK20 _ _ ?_
        clear hK20
        refine c_region ?_
        refine L_val (v := .int .i64 v3) (y_move (ev_tv rfl hs15)) ?_
        obtain ⟨r12, hr31⟩ : ∃ r12 : Int, r12 = IntKind.wrap .i64 (v3 + 1) := ⟨_, rfl⟩
        replace H := H r12 hr31
        refine L_val (v := .int .i64 r12) (y_add (ev_tv rfl rfl) ev_c hr31) ?_
        refine L_val (v := .int .i64 r12) (y_assign (ev_tv rfl rfl)) ?_
        refine l_nil ?_
        refine then_norm ?_
        obtain ⟨m13, hm32, H⟩ := H
        exact ⟨_, rfl, (by repeat (first | exact agree_refl | exact hag11 | refine agree_upd rfl ?_ | refine agree_via hag11 rfl ?_)), m13, hm32, _, rfl, H⟩
    · replace H := H.2 hb18
      have hq19 : Value.bool (decide ((v3 : Int) < ((a_a1l : Nat) : Int))) = Value.bool false := congrArg Value.bool (decide_eq_false hb18)
      refine cond_f (ev_tv rfl hq19) ?_
      refine c_exit ?_
      refine then_exit ?_
      refine then_exit ?_
      refine block_hit ?_
      refine then_norm ?_
      refine hK7 _ _ ?_
      clear hK7
      refine c_seq ?_
      intro K33 hK33
      refine c_region ?_
      refine L_val (v := .bool true) (y_assign ev_c) ?_
      refine l_nil ?_
      refine then_norm ?_
      refine hK33 _ _ ?_
      clear hK33
      refine c_ret ?_
      exact body_1 rfl (ev_tv rfl rfl) H

/-- (parapet/buf.Cache).Write -/
def Vc11 (a_c1 : Option Addr) (a_n2 : Int) (a_b3 : Option Addr) (a_b3l : Nat) (a_b3c : Nat) (w : World) (R : Ending → World → Prop) : Prop :=
  (Calls Try.prog 21 #[.pointer a_c1] w fun e w5 => ∃ x4 : Bool, e = .returned (.bool x4) ∧ (((x4 = true) → (((¬ ((((a_b3l : Nat) : Int) : Int) = 512)) → R (.returned (.int .i64 1)) w5) ∧ (((((a_b3l : Nat) : Int) : Int) = 512) → ((((a_n2 : Int) < 0) → R (.returned (.int .i64 20)) w5) ∧ ((¬ ((a_n2 : Int) < 0)) → (∃ (b7 o8 : Nat), a_c1 = some ⟨b7, o8, none⟩ ∧ (∃ x9 : Option Addr, World.cell? w5 ⟨b7, o8, none⟩ = some (.pointer x9) ∧ (Calls Try.prog 24 #[.pointer x9] w5 fun e w11 => ∃ x10 : Int, e = .returned (.int .i64 x10) ∧ ((((x10 : Int) ≤ a_n2) → R (.returned (.int .i64 20)) w11) ∧ ((¬ ((x10 : Int) ≤ a_n2)) → (∃ J18 : World → Prop, (∀  (w13 : World), J18  w13 → (∃ x14 : Option Nat, World.cell? (w13.drew) ⟨b7, o8 + 2, none⟩ = some (.map x14) ∧ (Calls Try.prog 23 #[.slice a_b3 a_b3l a_b3c] (w13.drew) fun e w16 => ∃ x15 : Option Addr, ∃ x15l : Nat, ∃ x15c : Nat, e = .returned (.slice x15 x15l x15c) ∧ (World.cell? w16 ⟨b7, o8 + 2, none⟩ = some (.map x14) ∧ (∀ (b17 : Nat) (w18 : World), b17 = World.heapSize w16 → w18 = World.alloc w16 (.cells #[.slice x15 x15l x15c, .bool true] 62) → (World.cell? w18 ⟨b7, o8 + 2, none⟩ = some (.map x14) ∧ (∃ w19 : World, (Instr.mapUpdate 52 (.map x14) (.int .i64 a_n2) (.pointer (some ⟨b17, 0, none⟩))).run Try.prog w18 = .ok () w19 ∧ (Calls Try.prog 22 #[.pointer (some ⟨b7, o8, none⟩), .int .i64 a_n2] w19 fun e w20 => e = .returned (.tuple #[]) ∧ R (.returned (.int .i64 0)) w20)))))))) ∧ (∃ x22 : Option Nat, World.cell? w11 ⟨b7, o8 + 2, none⟩ = some (.map x22) ∧ (∃ x23 : Option Addr, ∃ ok24 : Bool, (Instr.lookup 52 (.map x22) (.int .i64 a_n2) true).run Try.prog w11 = .ok (.tuple #[.pointer x23, .bool ok24]) w11 ∧ (((ok24 = true) → J18  w11) ∧ ((ok24 = false) → (Calls Try.prog 25 #[.pointer (some ⟨b7, o8, none⟩)] w11 fun e w26 => ∃ x25 : Bool, e = .returned (.bool x25) ∧ (((x25 = true) → J18  w26) ∧ ((x25 = false) → R (.returned (.int .i64 150)) w26)))))))))))))))))) ∧ ((x4 = false) → R (.returned (.int .i64 6)) w5)))

theorem vc11 {a_c1 : Option Addr} {a_n2 : Int} {a_b3 : Option Addr} {a_b3l : Nat} {a_b3c : Nat} {w : World} {R : Ending → World → Prop} (H : Vc11 a_c1 a_n2 a_b3 a_b3l a_b3c w R) : Calls Try.prog 11 #[.pointer a_c1, .int .i64 a_n2, .slice a_b3 a_b3l a_b3c] w R := by
  unfold Vc11 at H
  refine calls_start [.pointer a_c1, .int .i64 a_n2, .slice a_b3 a_b3l a_b3c] Try.func11 rfl Try.ntmps11 rfl ?_
  refine c_seq ?_
  intro K1 hK1
  refine c_region ?_
  refine L_val (v := .int .i64 0) (y_assign ev_c) ?_
  refine l_nil ?_
  refine then_norm ?_
  refine hK1 _ _ ?_
  clear hK1
  refine c_seq ?_
  intro K2 hK2
  refine c_block ?_
  refine c_seq ?_
  intro K3 hK3
  refine c_region ?_
  refine L_val (v := .pointer a_c1) (y_move (ev_tv rfl rfl)) ?_
  refine L_call (y_call Try.call21 (map_ev1 (ev_tv rfl rfl)) ev_f) (Calls.mono H ?_)
  clear H
  rintro _ w5 ⟨x4, rfl, H⟩
  refine ⟨_, rfl, ?_⟩
  rcases Bool.eq_false_or_eq_true x4 with hb4 | hb4
  · replace H := H.1 hb4
    have hq5 : Value.bool (x4) = Value.bool true := congrArg Value.bool hb4
    refine L_val (v := .bool false) (y_not_t (ev_tv rfl hq5)) ?_
    refine L_val (v := .bool false) (y_assign (ev_tv rfl rfl)) ?_
    refine l_nil ?_
    refine then_norm ?_
    refine hK3 _ _ ?_
    clear hK3
    refine cond_f (ev_tv rfl rfl) ?_
    refine c_seq ?_
    intro K6 hK6
    refine c_region ?_
    refine L_val (v := .slice a_b3 a_b3l a_b3c) (y_move (ev_tv rfl rfl)) ?_
    refine L_val (v := .int .i64 ((a_b3l : Nat) : Int)) (y_len Try.underlying33 rfl (map_ev1 (ev_tv rfl rfl))) ?_
    refine L_val (v := .bool (!decide ((((a_b3l : Nat) : Int) : Int) = 512))) (y_ine (ev_tv rfl rfl) ev_c) ?_
    refine L_val (v := .bool (!decide ((((a_b3l : Nat) : Int) : Int) = 512))) (y_assign (ev_tv rfl rfl)) ?_
    refine l_nil ?_
    refine then_norm ?_
    refine hK6 _ _ ?_
    clear hK6
    rcases (Decidable.em ((((a_b3l : Nat) : Int) : Int) = 512)).symm with hb7 | hb7
    · replace H := H.1 hb7
      have hq8 : Value.bool (!decide ((((a_b3l : Nat) : Int) : Int) = 512)) = Value.bool true := congrArg Value.bool (ndec_t hb7)
      refine cond_t (ev_tv rfl hq8) ?_
      refine c_seq ?_
      intro K9 hK9
      refine c_region ?_
      refine L_val (v := .int .i64 1) (y_assign ev_c) ?_
      refine l_nil ?_
      refine then_norm ?_
      refine hK9 _ _ ?_
      clear hK9
      refine c_ret ?_
      refine block_ret ?_
      refine then_ret ?_
      exact body_1 rfl (ev_tv rfl rfl) H
    · replace H := H.2 hb7
      have hq8 : Value.bool (!decide ((((a_b3l : Nat) : Int) : Int) = 512)) = Value.bool false := congrArg Value.bool (ndec_f hb7)
      refine cond_f (ev_tv rfl hq8) ?_
      refine c_seq ?_
      intro K10 hK10
      refine c_region ?_
      refine L_val (v := .int .i64 a_n2) (y_move (ev_tv rfl rfl)) ?_
      refine L_val (v := .bool (decide ((a_n2 : Int) < 0))) (y_lss (ev_tv rfl rfl) ev_c) ?_
      refine L_val (v := .bool (decide ((a_n2 : Int) < 0))) (y_move (ev_tv rfl rfl)) ?_
      rcases (Decidable.em ((a_n2 : Int) < 0)) with hb11 | hb11
      · replace H := H.1 hb11
        have hq12 : Value.bool (decide ((a_n2 : Int) < 0)) = Value.bool true := congrArg Value.bool (decide_eq_true hb11)
        refine G_not (b' := true) (dj := 20) rfl rfl hq12 rfl ?_
        refine G_not (b' := true) (dj := 20) rfl rfl hq12 rfl ?_
        refine G_not (b' := true) (dj := 20) rfl rfl hq12 rfl ?_
        refine G_not (b' := true) (dj := 20) rfl rfl hq12 rfl ?_
        refine G_not (b' := true) (dj := 20) rfl rfl hq12 rfl ?_
        refine G_not (b' := true) (dj := 20) rfl rfl hq12 rfl ?_
        refine G_not (b' := true) (dj := 20) rfl rfl hq12 rfl ?_
        refine L_val (v := .bool true) (y_pick_t (ev_tv rfl hq12) ev_c) ?_
        refine L_val (v := .bool true) (y_assign (ev_tv rfl rfl)) ?_
        refine l_nil ?_
        refine then_norm ?_
        refine hK10 _ _ ?_
        clear hK10
        refine cond_t (ev_tv rfl rfl) ?_
        refine c_seq ?_
        intro K13 hK13
        refine c_region ?_
        refine L_val (v := .int .i64 20) (y_assign ev_c) ?_
        refine l_nil ?_
        refine then_norm ?_
        refine hK13 _ _ ?_
        clear hK13
        refine c_ret ?_
        refine block_ret ?_
        refine then_ret ?_
        exact body_1 rfl (ev_tv rfl rfl) H
      · replace H := H.2 hb11
        have hq12 : Value.bool (decide ((a_n2 : Int) < 0)) = Value.bool false := congrArg Value.bool (decide_eq_false hb11)
        refine G_val (dj := 20) rfl rfl hq12 (v := .int .i64 a_n2) (y_move (ev_tv rfl rfl)) ?_
        refine G_val (dj := 20) rfl rfl hq12 (v := .pointer a_c1) (y_move (ev_tv rfl rfl)) ?_
        obtain ⟨b7, o8, rfl, H⟩ := H
        refine G_val (dj := 20) rfl rfl hq12 (v := .pointer (some ⟨b7, o8, none⟩)) (y_nilCheck (ev_tv rfl rfl)) ?_
        refine G_val (dj := 20) rfl rfl hq12 (v := .pointer (some ⟨b7, o8, none⟩)) (Try.fa56_0 (ev_tv rfl rfl)) ?_
        obtain ⟨x9, hc14, H⟩ := H
        refine G_val (dj := 20) rfl rfl hq12 (v := .pointer x9) (y_load Try.underlying23 rfl (ev_tv rfl rfl) hc14) ?_
        refine G_call (dj := 20) rfl rfl hq12 (y_call Try.call24 (map_ev1 (ev_tv rfl rfl)) ev_f) (Calls.mono H ?_)
        clear H
        rintro _ w11 ⟨x10, rfl, H⟩
        refine ⟨_, rfl, ?_⟩
        refine G_val (dj := 20) rfl rfl hq12 (v := .bool (decide ((x10 : Int) ≤ a_n2))) (y_geq (ev_tv rfl rfl) (ev_tv rfl rfl)) ?_
        refine L_val (v := .bool (decide ((x10 : Int) ≤ a_n2))) (y_pick_f (ev_tv rfl hq12) (ev_tv rfl rfl)) ?_
        refine L_val (v := .bool (decide ((x10 : Int) ≤ a_n2))) (y_assign (ev_tv rfl rfl)) ?_
        refine l_nil ?_
        refine then_norm ?_
        refine hK10 _ _ ?_
        clear hK10
        rcases (Decidable.em ((x10 : Int) ≤ a_n2)) with hb15 | hb15
        · replace H := H.1 hb15
          have hq16 : Value.bool (decide ((x10 : Int) ≤ a_n2)) = Value.bool true := congrArg Value.bool (decide_eq_true hb15)
          refine cond_t (ev_tv rfl hq16) ?_
          refine c_seq ?_
          intro K17 hK17
          refine c_region ?_
          refine L_val (v := .int .i64 20) (y_assign ev_c) ?_
          refine l_nil ?_
          refine then_norm ?_
          refine hK17 _ _ ?_
          clear hK17
          refine c_ret ?_
          refine block_ret ?_
          refine then_ret ?_
          exact body_1 rfl (ev_tv rfl rfl) H
        · replace H := H.2 hb15
          have hq16 : Value.bool (decide ((x10 : Int) ≤ a_n2)) = Value.bool false := congrArg Value.bool (decide_eq_false hb15)
          refine cond_f (ev_tv rfl hq16) ?_
          refine c_skip ?_
          refine block_norm ?_
          refine then_norm ?_
          refine hK2 _ _ ?_
          clear hK2
          obtain ⟨J18, hJ19, H⟩ := H
          refine c_seqJ [(6, 8), (29, 44)] (fun ff ww => J18  ww) ?_ ?_
          · clear hJ19
            intro K23 hK23
            refine c_seq ?_
            intro K33 hK33
            refine c_region ?_
            refine L_val (v := .pointer (some ⟨b7, o8, none⟩)) (y_move (ev_tv rfl rfl)) ?_
            refine L_val (v := .pointer (some ⟨b7, o8, none⟩)) (y_nilCheck (ev_tv rfl rfl)) ?_
            refine L_val (v := .pointer (some ⟨b7, o8 + 2, none⟩)) (Try.fa56_2 (ev_tv rfl rfl)) ?_
            obtain ⟨x22, hc34, H⟩ := H
            refine L_val (v := .map x22) (y_load Try.underlying52 rfl (ev_tv rfl rfl) hc34) ?_
            refine L_val (v := .int .i64 a_n2) (y_move (ev_tv rfl rfl)) ?_
            obtain ⟨x23, ok24, hc35, H⟩ := H
            refine L_val (v := .tuple #[.pointer x23, .bool ok24]) (y_lookup (ev_tv rfl rfl) (ev_tv rfl rfl) hc35) ?_
            refine L_val (v := .tuple #[.pointer x23, .bool ok24]) (y_move (ev_tv rfl rfl)) ?_
            refine L_val (v := .pointer x23) (y_extract (ev_tv rfl rfl) rfl) ?_
            refine L_val (v := .bool ok24) (y_extract (ev_tv rfl rfl) rfl) ?_
            refine L_val (v := .pointer x23) (y_assign (ev_tv rfl rfl)) ?_
            refine L_val (v := .bool ok24) (y_assign (ev_tv rfl rfl)) ?_
            refine l_nil ?_
            refine then_norm ?_
            refine hK33 _ _ ?_
            clear hK33
            refine c_seq ?_
            intro K36 hK36
            refine c_region ?_
            refine L_val (v := .bool ok24) (y_move (ev_tv rfl rfl)) ?_
            rcases Bool.eq_false_or_eq_true ok24 with hb37 | hb37
            · replace H := H.1 hb37
              have hq38 : Value.bool (ok24) = Value.bool true := congrArg Value.bool hb37
              refine L_val (v := .bool false) (y_not_t (ev_tv rfl hq38)) ?_
              refine L_val (v := .bool false) (y_move (ev_tv rfl rfl)) ?_
              refine G_not (b' := false) (dj := 40) rfl rfl rfl rfl ?_
              refine G_not (b' := false) (dj := 40) rfl rfl rfl rfl ?_
              refine G_not (b' := false) (dj := 40) rfl rfl rfl rfl ?_
              refine L_val (v := .bool false) (y_pick_f (ev_tv rfl rfl) ev_c) ?_
              refine l_nil ?_
              refine then_norm ?_
              refine hK36 _ _ ?_
              clear hK36
              refine cond_f (ev_tv rfl rfl) ?_
              refine c_skip ?_
              refine then_norm ?_
              exact hK23 _ _ (by repeat (first | exact agree_refl | refine agree_upd rfl ?_)) H
            · replace H := H.2 hb37
              have hq38 : Value.bool (ok24) = Value.bool false := congrArg Value.bool hb37
              refine L_val (v := .bool true) (y_not_f (ev_tv rfl hq38)) ?_
              refine L_val (v := .bool true) (y_move (ev_tv rfl rfl)) ?_
              refine G_val (dj := 40) rfl rfl rfl (v := .pointer (some ⟨b7, o8, none⟩)) (y_move (ev_tv rfl rfl)) ?_
              refine G_call (dj := 40) rfl rfl rfl (y_call Try.call25 (map_ev1 (ev_tv rfl rfl)) ev_f) (Calls.mono H ?_)
              clear H
              rintro _ w26 ⟨x25, rfl, H⟩
              refine ⟨_, rfl, ?_⟩
              rcases Bool.eq_false_or_eq_true x25 with hb39 | hb39
              · replace H := H.1 hb39
                have hq40 : Value.bool (x25) = Value.bool true := congrArg Value.bool hb39
                refine G_val (dj := 40) rfl rfl rfl (v := .bool false) (y_not_t (ev_tv rfl hq40)) ?_
                refine L_val (v := .bool false) (y_pick_t (ev_tv rfl rfl) (ev_tv rfl rfl)) ?_
                refine l_nil ?_
                refine then_norm ?_
                refine hK36 _ _ ?_
                clear hK36
                refine cond_f (ev_tv rfl rfl) ?_
                refine c_skip ?_
                refine then_norm ?_
                exact hK23 _ _ (by repeat (first | exact agree_refl | refine agree_upd rfl ?_)) H
              · replace H := H.2 hb39
                have hq40 : Value.bool (x25) = Value.bool false := congrArg Value.bool hb39
                refine G_val (dj := 40) rfl rfl rfl (v := .bool true) (y_not_f (ev_tv rfl hq40)) ?_
                refine L_val (v := .bool true) (y_pick_t (ev_tv rfl rfl) (ev_tv rfl rfl)) ?_
                refine l_nil ?_
                refine then_norm ?_
                refine hK36 _ _ ?_
                clear hK36
                refine cond_t (ev_tv rfl rfl) ?_
                refine c_seq ?_
                intro K41 hK41
                refine c_region ?_
                refine L_val (v := .int .i64 150) (y_assign ev_c) ?_
                refine l_nil ?_
                refine then_norm ?_
                refine hK41 _ _ ?_
                clear hK41
                refine c_ret ?_
                refine then_ret ?_
                exact body_1 rfl (ev_tv rfl rfl) H
          · clear H
            intro f20 w13 hag21 HJ22
            have H := hJ19  w13 HJ22
            clear hJ19
            refine c_seq ?_
            intro K24 hK24
            refine D_start Try.mixed rfl [6, 8, 9] ?_
            refine start_keep fun hS => ?_
            refine D_pure (i := 0) (v := .pointer (some ⟨b7, o8, none⟩)) rfl (by kernel_rfl) (W_none rfl) (fun _ => y_move (ev_tv rfl ((hag21 0 rfl).trans rfl))) hS ?_
            intro hS
            refine D_pure (i := 1) (v := .pointer (some ⟨b7, o8, none⟩)) rfl (by kernel_rfl) (W_none rfl) (fun _ => y_nilCheck (ev_tv rfl rfl)) hS ?_
            intro hS
            refine D_pure (i := 2) (v := .pointer (some ⟨b7, o8 + 2, none⟩)) rfl (by kernel_rfl) (W_none rfl) (fun _ => Try.fa56_2 (ev_tv rfl rfl)) hS ?_
            intro hS
            refine D_pure (i := 4) (v := .int .i64 a_n2) rfl (by kernel_rfl) (W_none rfl) (fun _ => y_move (ev_tv rfl ((hag21 1 rfl).trans rfl))) hS ?_
            intro hS
            refine D_pure (i := 5) (v := .slice a_b3 a_b3l a_b3c) rfl (by kernel_rfl) (W_none rfl) (fun _ => y_move (ev_tv rfl ((hag21 2 rfl).trans rfl))) hS ?_
            intro hS
            obtain ⟨x14, hc25, H⟩ := H
            refine D_read (i := 3) (v := .map x14) rfl (by kernel_rfl) (W_none rfl) (fun wx => World.cell? wx ⟨b7, o8 + 2, none⟩ = some (.map x14)) hc25 (fun _ hcx => y_load Try.underlying52 rfl (ev_tv rfl rfl) hcx) hS ?_
            intro hS
            refine D_only (i := 6) (by kernel_rfl) rfl ?_
            refine O_call (i := 6) rfl (W_none rfl) (y_call Try.call23 (map_ev1 (ev_tv rfl rfl)) ev_f) (Calls.mono H ?_)
            clear H
            rintro _ w16 ⟨x15, x15l, x15c, rfl, H⟩
            refine ⟨_, rfl, ?_⟩
            obtain ⟨hs32, H⟩ := H
            refine and_keep (SS_on hs32 SS_nil) fun hS => ?_
            refine D_pure (i := 7) (v := .agg #[.slice x15 x15l x15c, .bool true]) rfl (by kernel_rfl) (W_none rfl) (fun _ => y_build (parts_ev2 (ev_tv rfl rfl) ev_c) (by kernel_rfl)) hS ?_
            intro hS
            refine D_only (i := 8) (by kernel_rfl) rfl ?_
            obtain ⟨b17, hb26⟩ : ∃ b17 : Nat, b17 = World.heapSize w16 := ⟨_, rfl⟩
            obtain ⟨w18, hw27⟩ : ∃ w18 : World, w18 = World.alloc w16 (.cells #[.slice x15 x15l x15c, .bool true] 62) := ⟨_, rfl⟩
            replace H := H b17 w18 hb26 hw27
            refine O_val (i := 8) (v := .pointer (some ⟨b17, 0, none⟩)) rfl (W_none rfl) (y_box (ev_tv rfl rfl) rfl hb26 hw27) ?_
            obtain ⟨hs31, H⟩ := H
            refine and_keep (SS_on hs31 SS_nil) fun hS => ?_
            refine D_only (i := 9) (by kernel_rfl) rfl ?_
            obtain ⟨w19, hw28, H⟩ := H
            refine O_skip (i := 9) rfl (W_none rfl) (y_mapUpdate (ev_tv rfl rfl) (ev_tv rfl rfl) (ev_tv rfl rfl) hw28) ?_
            refine and_keep (SS_off (by kernel_rfl) SS_nil) fun hS => ?_
            refine D_done (by kernel_rfl) ?_
            refine then_norm ?_
            refine hK24 _ _ ?_
            clear hK24
            refine c_seq ?_
            intro K29 hK29
            refine c_region ?_
            refine L_val (v := .pointer (some ⟨b7, o8, none⟩)) (y_move (ev_tv rfl ((hag21 0 rfl).trans rfl))) ?_
            refine L_val (v := .int .i64 a_n2) (y_move (ev_tv rfl ((hag21 1 rfl).trans rfl))) ?_
            refine L_call (y_call Try.call22 (map_ev2 (ev_tv rfl rfl) (ev_tv rfl rfl)) ev_f) (Calls.mono H ?_)
            clear H
            rintro _ w20 ⟨rfl, H⟩
            refine ⟨_, rfl, ?_⟩
            refine l_nil ?_
            refine then_norm ?_
            refine hK29 _ _ ?_
            clear hK29
            refine c_seq ?_
            intro K30 hK30
            refine c_region ?_
            refine L_val (v := .int .i64 0) (y_assign ev_c) ?_
            refine l_nil ?_
            refine then_norm ?_
            refine hK30 _ _ ?_
            clear hK30
            refine c_ret ?_
            exact body_1 rfl (ev_tv rfl rfl) H
  · replace H := H.2 hb4
    have hq5 : Value.bool (x4) = Value.bool false := congrArg Value.bool hb4
    refine L_val (v := .bool true) (y_not_f (ev_tv rfl hq5)) ?_
    refine L_val (v := .bool true) (y_assign (ev_tv rfl rfl)) ?_
    refine l_nil ?_
    refine then_norm ?_
    refine hK3 _ _ ?_
    clear hK3
    refine cond_t (ev_tv rfl rfl) ?_
    refine c_seq ?_
    intro K42 hK42
    refine c_region ?_
    refine L_val (v := .int .i64 6) (y_assign ev_c) ?_
    refine l_nil ?_
    refine then_norm ?_
    refine hK42 _ _ ?_
    clear hK42
    refine c_ret ?_
    refine block_ret ?_
    refine then_ret ?_
    exact body_1 rfl (ev_tv rfl rfl) H

/-- parapet/parapetlaw15.full -/
def Vc12 (a_fill1 : Int) (a_short2 : Int) (w : World) (R : Ending → World → Prop) : Prop :=
  (∃ I5 : Nat → Option Addr → Nat → Nat → Int → World → Prop, (∃ m, I5 m none 0 0 0 w) ∧ ∀ (m5 : Nat) (v3 : Option Addr) (v3l : Nat) (v3c : Nat) (v4 : Int) (w6 : World), I5 m5 v3 v3l v3c v4 w6 → (∀ r7 : Int, r7 = Int.tmod a_short2 2 → (∀ r8 : Int, r8 = IntKind.wrap .i64 (512 - r7) → ((((v4 : Int) < r8) → (∀ (b9 : Nat) (w10 : World), b9 = World.heapSize w6 → w10 = World.alloc w6 (.cells #[.int .u8 a_fill1] 5) → (∃ x12 : Option Addr, ∃ x12l : Nat, ∃ x12c : Nat, ∃ w11 : World, (Builtin.append_ #[33, 33] 33 #[.slice v3 v3l v3c, .slice (some ⟨b9, 0, none⟩) 1 1]).run Try.prog w10 = .ok (.slice x12 x12l x12c) w11 ∧ (∀ r13 : Int, r13 = IntKind.wrap .i64 (v4 + 1) → (∃ m14, m14 < m5 ∧ I5 m14 x12 x12l x12c r13 w11))))) ∧ ((¬ ((v4 : Int) < r8)) → R (.returned (.slice v3 v3l v3c)) w6)))))

theorem vc12 {a_fill1 : Int} {a_short2 : Int} {w : World} {R : Ending → World → Prop} (H : Vc12 a_fill1 a_short2 w R) : Calls Try.prog 12 #[.int .u8 a_fill1, .int .i64 a_short2] w R := by
  unfold Vc12 at H
  refine calls_start [.int .u8 a_fill1, .int .i64 a_short2] Try.func12 rfl Try.ntmps12 rfl ?_
  refine c_seq ?_
  intro K1 hK1
  refine c_region ?_
  refine L_val (v := .slice none 0 0) (y_assign ev_c) ?_
  refine l_nil ?_
  refine then_norm ?_
  refine hK1 _ _ ?_
  clear hK1
  refine c_seq ?_
  intro K2 hK2
  refine c_region ?_
  refine L_val (v := .slice none 0 0) (y_assign ev_c) ?_
  refine l_nil ?_
  refine then_norm ?_
  refine hK2 _ _ ?_
  clear hK2
  refine c_seq ?_
  intro K3 hK3
  refine c_seq ?_
  intro K4 hK4
  refine c_region ?_
  refine L_val (v := .int .i64 0) (y_assign ev_c) ?_
  refine l_nil ?_
  refine then_norm ?_
  refine hK4 _ _ ?_
  clear hK4
  refine c_block ?_
  obtain ⟨I5, ⟨m9, HI10⟩, H⟩ := H
  refine loop_fr ([(5, 17)]) (fun m ff ww => ∃ (v3 : Option Addr) (v3l : Nat) (v3c : Nat) (v4 : Int), ff 5 = (.slice v3 v3l v3c : Value) ∧ ff 6 = (.int .i64 v4 : Value) ∧ I5 m v3 v3l v3c v4 ww) m9 ⟨none, 0, 0, 0, rfl, rfl, HI10⟩ ?_
  rintro m5 f6 w6 hag7 ⟨v3, v3l, v3c, v4, hs11, hs12, HI8⟩
  replace H := H m5 v3 v3l v3c v4 w6 HI8
  refine c_seq ?_
  intro K13 hK13
  refine c_seq ?_
  intro K14 hK14
  refine c_region ?_
  refine L_val (v := .int .i64 v4) (y_move (ev_tv rfl hs12)) ?_
  refine L_val (v := .int .i64 a_short2) (y_move (ev_tv rfl ((hag7 1 rfl).trans rfl))) ?_
  obtain ⟨r7, hr15⟩ : ∃ r7 : Int, r7 = Int.tmod a_short2 2 := ⟨_, rfl⟩
  replace H := H r7 hr15
  refine L_val (v := .int .i64 r7) (y_rem (ev_tv rfl rfl) ev_c (by decide) hr15) ?_
  obtain ⟨r8, hr16⟩ : ∃ r8 : Int, r8 = IntKind.wrap .i64 (512 - r7) := ⟨_, rfl⟩
  replace H := H r8 hr16
  refine L_val (v := .int .i64 r8) (y_sub ev_c (ev_tv rfl rfl) hr16) ?_
  refine L_val (v := .bool (decide ((v4 : Int) < r8))) (y_lss (ev_tv rfl rfl) (ev_tv rfl rfl)) ?_
  refine l_nil ?_
  refine then_norm ?_
  refine hK14 _ _ ?_
  clear hK14
  rcases (Decidable.em ((v4 : Int) < r8)) with hb17 | hb17
  · replace H := H.1 hb17
    have hq18 : Value.bool (decide ((v4 : Int) < r8)) = Value.bool true := congrArg Value.bool (decide_eq_true hb17)
    refine cond_t (ev_tv rfl hq18) ?_
    refine c_skip ?_
    refine then_norm ?_
    refine hK13 _ _ ?_
    clear hK13
    refine c_seq ?_
    intro K19 hK19
    refine c_block ?_
    refine c_region ?_
    refine L_val (v := .slice v3 v3l v3c) (y_move (ev_tv rfl hs11)) ?_
    refine L_val (v := .int .u8 a_fill1) (y_move (ev_tv rfl ((hag7 0 rfl).trans rfl))) ?_
    obtain ⟨b9, hb20⟩ : ∃ b9 : Nat, b9 = World.heapSize w6 := ⟨_, rfl⟩
    obtain ⟨w10, hw21⟩ : ∃ w10 : World, w10 = World.alloc w6 (.cells #[.int .u8 a_fill1] 5) := ⟨_, rfl⟩
    replace H := H b9 w10 hb20 hw21
    refine L_val (v := .slice (some ⟨b9, 0, none⟩) 1 1) (y_buildSlice (parts_ev1 (ev_tv rfl rfl)) hb20 hw21 (by kernel_rfl)) ?_
    obtain ⟨x12, x12l, x12c, w11, hc22, H⟩ := H
    refine L_val (v := .slice x12 x12l x12c) (y_bi_append (map_ev2 (ev_tv rfl rfl) (ev_tv rfl rfl)) hc22) ?_
    refine L_val (v := .slice x12 x12l x12c) (y_assign (ev_tv rfl rfl)) ?_
    refine l_nil ?_
    refine block_norm ?_
    refine then_norm ?_
    refine hK19 _ _ ?_
    clear hK19
    refine c_region ?_
    refine L_val (v := .int .i64 v4) (y_move (ev_tv rfl hs12)) ?_
    obtain ⟨r13, hr23⟩ : ∃ r13 : Int, r13 = IntKind.wrap .i64 (v4 + 1) := ⟨_, rfl⟩
    replace H := H r13 hr23
    refine L_val (v := .int .i64 r13) (y_add (ev_tv rfl rfl) ev_c hr23) ?_
    refine L_val (v := .int .i64 r13) (y_assign (ev_tv rfl rfl)) ?_
    refine l_nil ?_
    refine then_norm ?_
    obtain ⟨m14, hm24, H⟩ := H
    exact ⟨_, rfl, (by repeat (first | exact agree_refl | exact hag7 | refine agree_upd rfl ?_ | refine agree_via hag7 rfl ?_)), m14, hm24, _, _, _, _, rfl, rfl, H⟩
  · replace H := H.2 hb17
    have hq18 : Value.bool (decide ((v4 : Int) < r8)) = Value.bool false := congrArg Value.bool (decide_eq_false hb17)
    refine cond_f (ev_tv rfl hq18) ?_
    refine c_exit ?_
    refine then_exit ?_
    refine then_exit ?_
    refine block_hit ?_
    refine then_norm ?_
    refine hK3 _ _ ?_
    clear hK3
    refine c_seq ?_
    intro K25 hK25
    refine c_region ?_
    refine L_val (v := .slice v3 v3l v3c) (y_move (ev_tv rfl hs11)) ?_
    refine L_val (v := .slice v3 v3l v3c) (y_assign (ev_tv rfl rfl)) ?_
    refine l_nil ?_
    refine then_norm ?_
    refine hK25 _ _ ?_
    clear hK25
    refine c_ret ?_
    exact body_1 rfl (ev_tv rfl rfl) H

/-- (parapet/buf.Cache).Back -/
def Vc13 (a_c1 : Option Addr) (a_n2 : Int) (w : World) (R : Ending → World → Prop) : Prop :=
  (Calls Try.prog 21 #[.pointer a_c1] w fun e w4 => ∃ x3 : Bool, e = .returned (.bool x3) ∧ (((x3 = true) → (∃ (b6 o7 : Nat), a_c1 = some ⟨b6, o7, none⟩ ∧ (∃ x8 : Option Nat, World.cell? w4 ⟨b6, o7 + 2, none⟩ = some (.map x8) ∧ (∃ x9 : Option Addr, ∃ ok10 : Bool, (Instr.lookup 52 (.map x8) (.int .i64 a_n2) true).run Try.prog w4 = .ok (.tuple #[.pointer x9, .bool ok10]) w4 ∧ (((ok10 = true) → (∃ (b11 o12 : Nat), x9 = some ⟨b11, o12, none⟩ ∧ (∃ x13 : Bool, World.cell? w4 ⟨b11, o12 + 1, none⟩ = some (.bool x13) ∧ (((x13 = true) → (∃ x14 : Option Addr, World.cell? (w4.drew) ⟨b6, o7, none⟩ = some (.pointer x14) ∧ (∃ x15 : Option Addr, ∃ x15l : Nat, ∃ x15c : Nat, World.cell? (w4.drew) ⟨b11, o12, none⟩ = some (.slice x15 x15l x15c) ∧ (Calls Try.prog 26 #[.pointer x14, .int .i64 a_n2, .slice x15 x15l x15c] (w4.drew) fun e w17 => ∃ x16 : Int, e = .returned (.int .i64 x16) ∧ (((¬ ((x16 : Int) = 0)) → R (.returned (.tuple #[.bool false, .int .i64 x16])) w17) ∧ (((x16 : Int) = 0) → ((World.cell? w17 ⟨b11, o12 + 1, none⟩).isSome = true ∧ World.frozen? w17 ⟨b11, o12 + 1, none⟩ = false ∧ ∀ w18 : World, w18 = World.setCell w17 ⟨b11, o12 + 1, none⟩ (.bool false) → (∃ x19 : Int, World.cell? w18 ⟨b6, o7 + 4 + 3, none⟩ = some (.int .i64 x19) ∧ (∀ r20 : Int, r20 = IntKind.wrap .i64 (x19 + 1) → ((World.cell? w18 ⟨b6, o7 + 4 + 3, none⟩).isSome = true ∧ World.frozen? w18 ⟨b6, o7 + 4 + 3, none⟩ = false ∧ ∀ w21 : World, w21 = World.setCell w18 ⟨b6, o7 + 4 + 3, none⟩ (.int .i64 r20) → R (.returned (.tuple #[.bool true, .int .i64 0])) w21)))))))))) ∧ ((x13 = false) → R (.returned (.tuple #[.bool false, .int .i64 0])) w4))))) ∧ ((ok10 = false) → R (.returned (.tuple #[.bool false, .int .i64 0])) w4)))))) ∧ ((x3 = false) → R (.returned (.tuple #[.bool false, .int .i64 6])) w4)))

theorem vc13 {a_c1 : Option Addr} {a_n2 : Int} {w : World} {R : Ending → World → Prop} (H : Vc13 a_c1 a_n2 w R) : Calls Try.prog 13 #[.pointer a_c1, .int .i64 a_n2] w R := by
  unfold Vc13 at H
  refine calls_start [.pointer a_c1, .int .i64 a_n2] Try.func13 rfl Try.ntmps13 rfl ?_
  refine c_seq ?_
  intro K1 hK1
  refine c_region ?_
  refine L_val (v := .bool false) (y_assign ev_c) ?_
  refine L_val (v := .int .i64 0) (y_assign ev_c) ?_
  refine l_nil ?_
  refine then_norm ?_
  refine hK1 _ _ ?_
  clear hK1
  refine c_seq ?_
  intro K2 hK2
  refine c_seq ?_
  intro K3 hK3
  refine c_region ?_
  refine L_val (v := .pointer a_c1) (y_move (ev_tv rfl rfl)) ?_
  refine L_call (y_call Try.call21 (map_ev1 (ev_tv rfl rfl)) ev_f) (Calls.mono H ?_)
  clear H
  rintro _ w4 ⟨x3, rfl, H⟩
  refine ⟨_, rfl, ?_⟩
  rcases Bool.eq_false_or_eq_true x3 with hb4 | hb4
  · replace H := H.1 hb4
    have hq5 : Value.bool (x3) = Value.bool true := congrArg Value.bool hb4
    refine L_val (v := .bool false) (y_not_t (ev_tv rfl hq5)) ?_
    refine l_nil ?_
    refine then_norm ?_
    refine hK3 _ _ ?_
    clear hK3
    refine cond_f (ev_tv rfl rfl) ?_
    refine c_skip ?_
    refine then_norm ?_
    refine hK2 _ _ ?_
    clear hK2
    refine c_seq ?_
    intro K6 hK6
    refine c_region ?_
    refine L_val (v := .pointer a_c1) (y_move (ev_tv rfl rfl)) ?_
    obtain ⟨b6, o7, rfl, H⟩ := H
    refine L_val (v := .pointer (some ⟨b6, o7, none⟩)) (y_nilCheck (ev_tv rfl rfl)) ?_
    refine L_val (v := .pointer (some ⟨b6, o7 + 2, none⟩)) (Try.fa56_2 (ev_tv rfl rfl)) ?_
    obtain ⟨x8, hc7, H⟩ := H
    refine L_val (v := .map x8) (y_load Try.underlying52 rfl (ev_tv rfl rfl) hc7) ?_
    refine L_val (v := .int .i64 a_n2) (y_move (ev_tv rfl rfl)) ?_
    obtain ⟨x9, ok10, hc8, H⟩ := H
    refine L_val (v := .tuple #[.pointer x9, .bool ok10]) (y_lookup (ev_tv rfl rfl) (ev_tv rfl rfl) hc8) ?_
    refine L_val (v := .tuple #[.pointer x9, .bool ok10]) (y_move (ev_tv rfl rfl)) ?_
    refine L_val (v := .pointer x9) (y_extract (ev_tv rfl rfl) rfl) ?_
    refine L_val (v := .bool ok10) (y_extract (ev_tv rfl rfl) rfl) ?_
    refine L_val (v := .pointer x9) (y_assign (ev_tv rfl rfl)) ?_
    refine L_val (v := .bool ok10) (y_assign (ev_tv rfl rfl)) ?_
    refine l_nil ?_
    refine then_norm ?_
    refine hK6 _ _ ?_
    clear hK6
    refine c_seq ?_
    intro K9 hK9
    refine c_seq ?_
    intro K10 hK10
    refine c_region ?_
    refine L_val (v := .bool ok10) (y_move (ev_tv rfl rfl)) ?_
    rcases Bool.eq_false_or_eq_true ok10 with hb11 | hb11
    · replace H := H.1 hb11
      have hq12 : Value.bool (ok10) = Value.bool true := congrArg Value.bool hb11
      refine L_val (v := .bool false) (y_not_t (ev_tv rfl hq12)) ?_
      refine L_val (v := .bool false) (y_move (ev_tv rfl rfl)) ?_
      refine G_val (dj := 23) rfl rfl rfl (v := .pointer x9) (y_move (ev_tv rfl rfl)) ?_
      obtain ⟨b11, o12, rfl, H⟩ := H
      refine G_val (dj := 23) rfl rfl rfl (v := .pointer (some ⟨b11, o12, none⟩)) (y_nilCheck (ev_tv rfl rfl)) ?_
      refine G_val (dj := 23) rfl rfl rfl (v := .pointer (some ⟨b11, o12 + 1, none⟩)) (Try.fa62_1 (ev_tv rfl rfl)) ?_
      obtain ⟨x13, hc13, H⟩ := H
      refine G_val (dj := 23) rfl rfl rfl (v := .bool x13) (y_load Try.underlying4 rfl (ev_tv rfl rfl) hc13) ?_
      rcases Bool.eq_false_or_eq_true x13 with hb14 | hb14
      · replace H := H.1 hb14
        have hq15 : Value.bool (x13) = Value.bool true := congrArg Value.bool hb14
        refine G_val (dj := 23) rfl rfl rfl (v := .bool false) (y_not_t (ev_tv rfl hq15)) ?_
        refine L_val (v := .bool false) (y_pick_f (ev_tv rfl rfl) (ev_tv rfl rfl)) ?_
        refine l_nil ?_
        refine then_norm ?_
        refine hK10 _ _ ?_
        clear hK10
        refine cond_f (ev_tv rfl rfl) ?_
        refine c_skip ?_
        refine then_norm ?_
        refine hK9 _ _ ?_
        clear hK9
        refine c_seq ?_
        intro K16 hK16
        refine c_seq ?_
        intro K17 hK17
        refine D_start Try.mixed rfl [9] ?_
        refine start_keep fun hS => ?_
        refine D_pure (i := 0) (v := .pointer (some ⟨b6, o7, none⟩)) rfl (by kernel_rfl) (W_none rfl) (fun _ => y_move (ev_tv rfl rfl)) hS ?_
        intro hS
        refine D_pure (i := 1) (v := .pointer (some ⟨b6, o7, none⟩)) rfl (by kernel_rfl) (W_none rfl) (fun _ => y_nilCheck (ev_tv rfl rfl)) hS ?_
        intro hS
        refine D_pure (i := 2) (v := .pointer (some ⟨b6, o7, none⟩)) rfl (by kernel_rfl) (W_none rfl) (fun _ => Try.fa56_0 (ev_tv rfl rfl)) hS ?_
        intro hS
        refine D_pure (i := 4) (v := .int .i64 a_n2) rfl (by kernel_rfl) (W_none rfl) (fun _ => y_move (ev_tv rfl rfl)) hS ?_
        intro hS
        refine D_pure (i := 5) (v := .pointer (some ⟨b11, o12, none⟩)) rfl (by kernel_rfl) (W_none rfl) (fun _ => y_move (ev_tv rfl rfl)) hS ?_
        intro hS
        refine D_pure (i := 6) (v := .pointer (some ⟨b11, o12, none⟩)) rfl (by kernel_rfl) (W_none rfl) (fun _ => y_nilCheck (ev_tv rfl rfl)) hS ?_
        intro hS
        refine D_pure (i := 7) (v := .pointer (some ⟨b11, o12, none⟩)) rfl (by kernel_rfl) (W_none rfl) (fun _ => Try.fa62_0 (ev_tv rfl rfl)) hS ?_
        intro hS
        obtain ⟨x14, hc18, H⟩ := H
        refine D_read (i := 3) (v := .pointer x14) rfl (by kernel_rfl) (W_none rfl) (fun wx => World.cell? wx ⟨b6, o7, none⟩ = some (.pointer x14)) hc18 (fun _ hcx => y_load Try.underlying23 rfl (ev_tv rfl rfl) hcx) hS ?_
        intro hS
        obtain ⟨x15, x15l, x15c, hc19, H⟩ := H
        refine D_read (i := 8) (v := .slice x15 x15l x15c) rfl (by kernel_rfl) (W_none rfl) (fun wx => World.cell? wx ⟨b11, o12, none⟩ = some (.slice x15 x15l x15c)) hc19 (fun _ hcx => y_load Try.underlying33 rfl (ev_tv rfl rfl) hcx) hS ?_
        intro hS
        refine D_only (i := 9) (by kernel_rfl) rfl ?_
        refine O_call (i := 9) rfl (W_none rfl) (y_call Try.call26 (map_ev3 (ev_tv rfl rfl) (ev_tv rfl rfl) (ev_tv rfl rfl)) ev_f) (Calls.mono H ?_)
        clear H
        rintro _ w17 ⟨x16, rfl, H⟩
        refine ⟨_, rfl, ?_⟩
        refine and_keep (SS_off (by kernel_rfl) (SS_off (by kernel_rfl) SS_nil)) fun hS => ?_
        refine D_pure (i := 10) (v := .int .i64 x16) rfl (by kernel_rfl) (W_none rfl) (fun _ => y_assign (ev_tv rfl rfl)) hS ?_
        intro hS
        refine D_done (by kernel_rfl) ?_
        refine then_norm ?_
        refine hK17 _ _ ?_
        clear hK17
        refine c_seq ?_
        intro K20 hK20
        refine c_region ?_
        refine L_val (v := .int .i64 x16) (y_move (ev_tv rfl rfl)) ?_
        refine L_val (v := .bool (!decide ((x16 : Int) = 0))) (y_ine (ev_tv rfl rfl) ev_c) ?_
        refine l_nil ?_
        refine then_norm ?_
        refine hK20 _ _ ?_
        clear hK20
        rcases (Decidable.em ((x16 : Int) = 0)).symm with hb21 | hb21
        · replace H := H.1 hb21
          have hq22 : Value.bool (!decide ((x16 : Int) = 0)) = Value.bool true := congrArg Value.bool (ndec_t hb21)
          refine cond_t (ev_tv rfl hq22) ?_
          refine c_seq ?_
          intro K23 hK23
          refine c_region ?_
          refine L_val (v := .int .i64 x16) (y_move (ev_tv rfl rfl)) ?_
          refine L_val (v := .bool false) (y_assign ev_c) ?_
          refine L_val (v := .int .i64 x16) (y_assign (ev_tv rfl rfl)) ?_
          refine l_nil ?_
          refine then_norm ?_
          refine hK23 _ _ ?_
          clear hK23
          refine c_ret ?_
          refine then_ret ?_
          exact body_2 rfl (ev_tv rfl rfl) (ev_tv rfl rfl) H
        · replace H := H.2 hb21
          have hq22 : Value.bool (!decide ((x16 : Int) = 0)) = Value.bool false := congrArg Value.bool (ndec_f hb21)
          refine cond_f (ev_tv rfl hq22) ?_
          refine c_skip ?_
          refine then_norm ?_
          refine hK16 _ _ ?_
          clear hK16
          refine c_seq ?_
          intro K24 hK24
          refine c_region ?_
          refine L_val (v := .pointer (some ⟨b11, o12, none⟩)) (y_move (ev_tv rfl rfl)) ?_
          refine L_val (v := .pointer (some ⟨b11, o12, none⟩)) (y_nilCheck (ev_tv rfl rfl)) ?_
          refine L_val (v := .pointer (some ⟨b11, o12 + 1, none⟩)) (Try.fa62_1 (ev_tv rfl rfl)) ?_
          obtain ⟨hc25, hf26, H⟩ := H
          obtain ⟨w18, hw27⟩ : ∃ w18 : World, w18 = World.setCell w17 ⟨b11, o12 + 1, none⟩ (.bool false) := ⟨_, rfl⟩
          replace H := H w18 hw27
          refine L_skip (y_store Try.type4 rfl rfl (ev_tv rfl rfl) ev_c hc25 hf26 hw27) ?_
          refine l_nil ?_
          refine then_norm ?_
          refine hK24 _ _ ?_
          clear hK24
          refine c_seq ?_
          intro K28 hK28
          refine c_region ?_
          refine L_val (v := .pointer (some ⟨b6, o7, none⟩)) (y_move (ev_tv rfl rfl)) ?_
          refine L_val (v := .pointer (some ⟨b6, o7, none⟩)) (y_nilCheck (ev_tv rfl rfl)) ?_
          refine L_val (v := .pointer (some ⟨b6, o7 + 4, none⟩)) (Try.fa56_4 (ev_tv rfl rfl)) ?_
          refine L_val (v := .pointer (some ⟨b6, o7 + 4 + 3, none⟩)) (Try.fa54_3 (ev_tv rfl rfl)) ?_
          obtain ⟨x19, hc29, H⟩ := H
          refine L_val (v := .int .i64 x19) (y_load Try.underlying3 rfl (ev_tv rfl rfl) hc29) ?_
          obtain ⟨r20, hr30⟩ : ∃ r20 : Int, r20 = IntKind.wrap .i64 (x19 + 1) := ⟨_, rfl⟩
          replace H := H r20 hr30
          refine L_val (v := .int .i64 r20) (y_add (ev_tv rfl rfl) ev_c hr30) ?_
          refine L_val (v := .pointer (some ⟨b6, o7, none⟩)) (y_nilCheck (ev_tv rfl rfl)) ?_
          refine L_val (v := .pointer (some ⟨b6, o7 + 4, none⟩)) (Try.fa56_4 (ev_tv rfl rfl)) ?_
          refine L_val (v := .pointer (some ⟨b6, o7 + 4 + 3, none⟩)) (Try.fa54_3 (ev_tv rfl rfl)) ?_
          obtain ⟨hc31, hf32, H⟩ := H
          obtain ⟨w21, hw33⟩ : ∃ w21 : World, w21 = World.setCell w18 ⟨b6, o7 + 4 + 3, none⟩ (.int .i64 r20) := ⟨_, rfl⟩
          replace H := H w21 hw33
          refine L_skip (y_store Try.type3 rfl rfl (ev_tv rfl rfl) (ev_tv rfl rfl) hc31 hf32 hw33) ?_
          refine l_nil ?_
          refine then_norm ?_
          refine hK28 _ _ ?_
          clear hK28
          refine c_seq ?_
          intro K34 hK34
          refine c_region ?_
          refine L_val (v := .bool true) (y_assign ev_c) ?_
          refine L_val (v := .int .i64 0) (y_assign ev_c) ?_
          refine l_nil ?_
          refine then_norm ?_
          refine hK34 _ _ ?_
          clear hK34
          refine c_ret ?_
          exact body_2 rfl (ev_tv rfl rfl) (ev_tv rfl rfl) H
      · replace H := H.2 hb14
        have hq15 : Value.bool (x13) = Value.bool false := congrArg Value.bool hb14
        refine G_val (dj := 23) rfl rfl rfl (v := .bool true) (y_not_f (ev_tv rfl hq15)) ?_
        refine L_val (v := .bool true) (y_pick_f (ev_tv rfl rfl) (ev_tv rfl rfl)) ?_
        refine l_nil ?_
        refine then_norm ?_
        refine hK10 _ _ ?_
        clear hK10
        refine cond_t (ev_tv rfl rfl) ?_
        refine c_seq ?_
        intro K35 hK35
        refine c_region ?_
        refine L_val (v := .bool false) (y_assign ev_c) ?_
        refine L_val (v := .int .i64 0) (y_assign ev_c) ?_
        refine l_nil ?_
        refine then_norm ?_
        refine hK35 _ _ ?_
        clear hK35
        refine c_ret ?_
        refine then_ret ?_
        exact body_2 rfl (ev_tv rfl rfl) (ev_tv rfl rfl) H
    · replace H := H.2 hb11
      have hq12 : Value.bool (ok10) = Value.bool false := congrArg Value.bool hb11
      refine L_val (v := .bool true) (y_not_f (ev_tv rfl hq12)) ?_
      refine L_val (v := .bool true) (y_move (ev_tv rfl rfl)) ?_
      refine G_not (b' := true) (dj := 23) rfl rfl rfl rfl ?_
      refine G_not (b' := true) (dj := 23) rfl rfl rfl rfl ?_
      refine G_not (b' := true) (dj := 23) rfl rfl rfl rfl ?_
      refine G_not (b' := true) (dj := 23) rfl rfl rfl rfl ?_
      refine G_not (b' := true) (dj := 23) rfl rfl rfl rfl ?_
      refine L_val (v := .bool true) (y_pick_t (ev_tv rfl rfl) ev_c) ?_
      refine l_nil ?_
      refine then_norm ?_
      refine hK10 _ _ ?_
      clear hK10
      refine cond_t (ev_tv rfl rfl) ?_
      refine c_seq ?_
      intro K36 hK36
      refine c_region ?_
      refine L_val (v := .bool false) (y_assign ev_c) ?_
      refine L_val (v := .int .i64 0) (y_assign ev_c) ?_
      refine l_nil ?_
      refine then_norm ?_
      refine hK36 _ _ ?_
      clear hK36
      refine c_ret ?_
      refine then_ret ?_
      exact body_2 rfl (ev_tv rfl rfl) (ev_tv rfl rfl) H
  · replace H := H.2 hb4
    have hq5 : Value.bool (x3) = Value.bool false := congrArg Value.bool hb4
    refine L_val (v := .bool true) (y_not_f (ev_tv rfl hq5)) ?_
    refine l_nil ?_
    refine then_norm ?_
    refine hK3 _ _ ?_
    clear hK3
    refine cond_t (ev_tv rfl rfl) ?_
    refine c_seq ?_
    intro K37 hK37
    refine c_region ?_
    refine L_val (v := .bool false) (y_assign ev_c) ?_
    refine L_val (v := .int .i64 6) (y_assign ev_c) ?_
    refine l_nil ?_
    refine then_norm ?_
    refine hK37 _ _ ?_
    clear hK37
    refine c_ret ?_
    refine then_ret ?_
    exact body_2 rfl (ev_tv rfl rfl) (ev_tv rfl rfl) H

/-- (parapet/buf.Cache).Forget -/
def Vc14 (a_c1 : Option Addr) (w : World) (R : Ending → World → Prop) : Prop :=
  (Calls Try.prog 16 #[.pointer a_c1] w fun e w3 => ∃ x2 : Option Addr, ∃ x2l : Nat, ∃ x2c : Nat, e = .returned (.slice x2 x2l x2c) ∧ (∃ I5 : Nat → Int → World → Prop, (∃ m, I5 m 0 w3) ∧ ∀ (m6 : Nat) (v5 : Int) (w7 : World), I5 m6 v5 w7 → ((((v5 : Int) < ((x2l : Nat) : Int)) → (∃ (b8 o9 : Nat), x2 = some ⟨b8, o9, none⟩ ∧ ((0 : Int) ≤ v5 ∧ v5 < ((x2l : Nat) : Int) ∧ (∃ x10 : Int, World.cell? w7 ⟨b8, o9 + (v5 : Int).toNat, none⟩ = some (.int .i64 x10) ∧ (∃ (b11 o12 : Nat), a_c1 = some ⟨b11, o12, none⟩ ∧ (∃ x13 : Option Nat, World.cell? w7 ⟨b11, o12 + 2, none⟩ = some (.map x13) ∧ (∃ x14 : Option Addr, (Instr.lookup 52 (.map x13) (.int .i64 x10) false).run Try.prog w7 = .ok (.pointer x14) w7 ∧ (∃ (b15 o16 : Nat), x14 = some ⟨b15, o16, none⟩ ∧ (∃ x17 : Bool, World.cell? w7 ⟨b15, o16 + 1, none⟩ = some (.bool x17) ∧ (((x17 = true) → (∀ r18 : Int, r18 = IntKind.wrap .i64 (v5 + 1) → (∃ m19, m19 < m6 ∧ I5 m19 r18 w7))) ∧ ((x17 = false) → (∃ x20 : Option Nat, World.cell? w7 ⟨b11, o12 + 2, none⟩ = some (.map x20) ∧ (∃ w21 : World, (Builtin.delete_ #[52, 3] 0 #[.map x20, .int .i64 x10]).run Try.prog w7 = .ok (.tuple #[]) w21 ∧ (Calls Try.prog 27 #[.pointer (some ⟨b11, o12, none⟩), .int .i64 x10] w21 fun e w22 => e = .returned (.tuple #[]) ∧ (∀ r24 : Int, r24 = IntKind.wrap .i64 (v5 + 1) → (∃ m25, m25 < m6 ∧ I5 m25 r24 w22)))))))))))))))) ∧ ((¬ ((v5 : Int) < ((x2l : Nat) : Int))) → (Calls Try.prog 16 #[.pointer a_c1] w7 fun e w27 => ∃ x26 : Option Addr, ∃ x26l : Nat, ∃ x26c : Nat, e = .returned (.slice x26 x26l x26c) ∧ (∀ r29 : Int, r29 = IntKind.wrap .i64 (((x2l : Nat) : Int) - ((x26l : Nat) : Int)) → R (.returned (.int .i64 r29)) w27))))))

theorem vc14 {a_c1 : Option Addr} {w : World} {R : Ending → World → Prop} (H : Vc14 a_c1 w R) : Calls Try.prog 14 #[.pointer a_c1] w R := by
  unfold Vc14 at H
  refine calls_start [.pointer a_c1] Try.func14 rfl Try.ntmps14 rfl ?_
  refine c_seq ?_
  intro K1 hK1
  refine c_region ?_
  refine L_val (v := .int .i64 0) (y_assign ev_c) ?_
  refine l_nil ?_
  refine then_norm ?_
  refine hK1 _ _ ?_
  clear hK1
  refine c_seq ?_
  intro K2 hK2
  refine c_region ?_
  refine L_val (v := .pointer a_c1) (y_move (ev_tv rfl rfl)) ?_
  refine L_call (y_call Try.call16 (map_ev1 (ev_tv rfl rfl)) ev_f) (Calls.mono H ?_)
  clear H
  rintro _ w3 ⟨x2, x2l, x2c, rfl, H⟩
  refine ⟨_, rfl, ?_⟩
  refine L_val (v := .slice x2 x2l x2c) (y_assign (ev_tv rfl rfl)) ?_
  refine l_nil ?_
  refine then_norm ?_
  refine hK2 _ _ ?_
  clear hK2
  refine c_seq ?_
  intro K3 hK3
  refine c_seq ?_
  intro K4 hK4
  refine c_region ?_
  refine L_val (v := .slice x2 x2l x2c) (y_move (ev_tv rfl rfl)) ?_
  refine L_val (v := .int .i64 ((x2l : Nat) : Int)) (y_len Try.underlying43 rfl (map_ev1 (ev_tv rfl rfl))) ?_
  refine L_val (v := .int .i64 0) (y_move ev_c) ?_
  refine l_nil ?_
  refine then_norm ?_
  refine hK4 _ _ ?_
  clear hK4
  refine c_block ?_
  obtain ⟨I5, ⟨m9, HI10⟩, H⟩ := H
  refine loop_fr ([(5, 5), (10, 32)]) (fun m ff ww => ∃ (v5 : Int), ff 10 = (.int .i64 v5 : Value) ∧ I5 m v5 ww) m9 ⟨0, rfl, HI10⟩ ?_
  rintro m6 f6 w7 hag7 ⟨v5, hs11, HI8⟩
  replace H := H m6 v5 w7 HI8
  refine c_seq ?_
  intro K12 hK12
  refine c_region ?_
  refine L_val (v := .bool (decide ((v5 : Int) < ((x2l : Nat) : Int)))) (y_lss (ev_tv rfl hs11) (ev_tv rfl ((hag7 9 rfl).trans rfl))) ?_
  refine l_nil ?_
  refine then_norm ?_
  refine hK12 _ _ ?_
  clear hK12
  refine c_seq ?_
  intro K13 hK13
  rcases (Decidable.em ((v5 : Int) < ((x2l : Nat) : Int))) with hb14 | hb14
  · replace H := H.1 hb14
    have hq15 : Value.bool (decide ((v5 : Int) < ((x2l : Nat) : Int))) = Value.bool true := congrArg Value.bool (decide_eq_true hb14)
    refine cond_t (ev_tv rfl hq15) ?_
    refine c_skip ?_
    refine then_norm ?_
    refine hK13 _ _ ?_
    clear hK13
    refine c_seq ?_
    intro K16 hK16
    refine c_block ?_
    refine c_seq ?_
    intro K17 hK17
    refine c_region ?_
    obtain ⟨b8, o9, rfl, H⟩ := H
    obtain ⟨hi18, hi19, H⟩ := H
    refine L_val (v := .pointer (some ⟨b8, o9 + (v5 : Int).toNat, none⟩)) (y_ix1 Try.underlying43 Try.type3 rfl (ev_tv rfl ((hag7 8 rfl).trans rfl)) (ev_tv rfl hs11) hi18 hi19) ?_
    obtain ⟨x10, hc20, H⟩ := H
    refine L_val (v := .int .i64 x10) (y_load Try.underlying3 rfl (ev_tv rfl rfl) hc20) ?_
    refine L_val (v := .int .i64 x10) (y_assign (ev_tv rfl rfl)) ?_
    refine l_nil ?_
    refine then_norm ?_
    refine hK17 _ _ ?_
    clear hK17
    refine c_seq ?_
    intro K21 hK21
    refine c_region ?_
    refine L_val (v := .pointer a_c1) (y_move (ev_tv rfl ((hag7 0 rfl).trans rfl))) ?_
    obtain ⟨b11, o12, rfl, H⟩ := H
    refine L_val (v := .pointer (some ⟨b11, o12, none⟩)) (y_nilCheck (ev_tv rfl rfl)) ?_
    refine L_val (v := .pointer (some ⟨b11, o12 + 2, none⟩)) (Try.fa56_2 (ev_tv rfl rfl)) ?_
    obtain ⟨x13, hc22, H⟩ := H
    refine L_val (v := .map x13) (y_load Try.underlying52 rfl (ev_tv rfl rfl) hc22) ?_
    refine L_val (v := .int .i64 x10) (y_move (ev_tv rfl rfl)) ?_
    obtain ⟨x14, hc23, H⟩ := H
    refine L_val (v := .pointer x14) (y_lookup (ev_tv rfl rfl) (ev_tv rfl rfl) hc23) ?_
    obtain ⟨b15, o16, rfl, H⟩ := H
    refine L_val (v := .pointer (some ⟨b15, o16, none⟩)) (y_nilCheck (ev_tv rfl rfl)) ?_
    refine L_val (v := .pointer (some ⟨b15, o16 + 1, none⟩)) (Try.fa62_1 (ev_tv rfl rfl)) ?_
    obtain ⟨x17, hc24, H⟩ := H
    refine L_val (v := .bool x17) (y_load Try.underlying4 rfl (ev_tv rfl rfl) hc24) ?_
    rcases Bool.eq_false_or_eq_true x17 with hb25 | hb25
    · replace H := H.1 hb25
      have hq26 : Value.bool (x17) = Value.bool true := congrArg Value.bool hb25
      refine L_val (v := .bool false) (y_not_t (ev_tv rfl hq26)) ?_
      refine l_nil ?_
      refine then_norm ?_
      refine hK21 _ _ ?_
      clear hK21
      refine cond_f (ev_tv rfl rfl) ?_
      refine c_skip ?_
      refine block_norm ?_
      refine then_norm ?_
      refine hK16 _ _ ?_
      clear hK16
      refine c_region ?_
      obtain ⟨r18, hr27⟩ : ∃ r18 : Int, r18 = IntKind.wrap .i64 (v5 + 1) := ⟨_, rfl⟩
      replace H := H r18 hr27
      refine L_val (v := .int .i64 r18) (y_add (ev_tv rfl hs11) ev_c hr27) ?_
      refine L_val (v := .int .i64 r18) (y_move (ev_tv rfl rfl)) ?_
      refine l_nil ?_
      refine then_norm ?_
      obtain ⟨m19, hm28, H⟩ := H
      exact ⟨_, rfl, (by repeat (first | exact agree_refl | exact hag7 | refine agree_upd rfl ?_ | refine agree_via hag7 rfl ?_)), m19, hm28, _, rfl, H⟩
    · replace H := H.2 hb25
      have hq26 : Value.bool (x17) = Value.bool false := congrArg Value.bool hb25
      refine L_val (v := .bool true) (y_not_f (ev_tv rfl hq26)) ?_
      refine l_nil ?_
      refine then_norm ?_
      refine hK21 _ _ ?_
      clear hK21
      refine cond_t (ev_tv rfl rfl) ?_
      refine c_seq ?_
      intro K29 hK29
      refine c_region ?_
      refine L_val (v := .pointer (some ⟨b11, o12, none⟩)) (y_move (ev_tv rfl ((hag7 0 rfl).trans rfl))) ?_
      refine L_val (v := .pointer (some ⟨b11, o12, none⟩)) (y_nilCheck (ev_tv rfl rfl)) ?_
      refine L_val (v := .pointer (some ⟨b11, o12 + 2, none⟩)) (Try.fa56_2 (ev_tv rfl rfl)) ?_
      obtain ⟨x20, hc30, H⟩ := H
      refine L_val (v := .map x20) (y_load Try.underlying52 rfl (ev_tv rfl rfl) hc30) ?_
      refine L_val (v := .int .i64 x10) (y_move (ev_tv rfl rfl)) ?_
      obtain ⟨w21, hc31, H⟩ := H
      refine L_valn (v := .tuple #[]) (y_bi_delete (map_ev2 (ev_tv rfl rfl) (ev_tv rfl rfl)) hc31) ?_
      refine l_nil ?_
      refine then_norm ?_
      refine hK29 _ _ ?_
      clear hK29
      refine c_region ?_
      refine L_val (v := .pointer (some ⟨b11, o12, none⟩)) (y_move (ev_tv rfl ((hag7 0 rfl).trans rfl))) ?_
      refine L_val (v := .int .i64 x10) (y_move (ev_tv rfl rfl)) ?_
      refine L_call (y_call Try.call27 (map_ev2 (ev_tv rfl rfl) (ev_tv rfl rfl)) ev_f) (Calls.mono H ?_)
      clear H
      rintro _ w22 ⟨rfl, H⟩
      refine ⟨_, rfl, ?_⟩
      refine l_nil ?_
      refine block_norm ?_
      refine then_norm ?_
      refine hK16 _ _ ?_
      clear hK16
      refine c_region ?_
      obtain ⟨r24, hr32⟩ : ∃ r24 : Int, r24 = IntKind.wrap .i64 (v5 + 1) := ⟨_, rfl⟩
      replace H := H r24 hr32
      refine L_val (v := .int .i64 r24) (y_add (ev_tv rfl hs11) ev_c hr32) ?_
      refine L_val (v := .int .i64 r24) (y_move (ev_tv rfl rfl)) ?_
      refine l_nil ?_
      refine then_norm ?_
      obtain ⟨m25, hm33, H⟩ := H
      exact ⟨_, rfl, (by repeat (first | exact agree_refl | exact hag7 | refine agree_upd rfl ?_ | refine agree_via hag7 rfl ?_)), m25, hm33, _, rfl, H⟩
  · replace H := H.2 hb14
    have hq15 : Value.bool (decide ((v5 : Int) < ((x2l : Nat) : Int))) = Value.bool false := congrArg Value.bool (decide_eq_false hb14)
    refine cond_f (ev_tv rfl hq15) ?_
    refine c_exit ?_
    refine then_exit ?_
    refine then_exit ?_
    refine block_hit ?_
    refine then_norm ?_
    refine hK3 _ _ ?_
    clear hK3
    refine c_seq ?_
    intro K34 hK34
    refine c_region ?_
    refine L_val (v := .slice x2 x2l x2c) (y_move (ev_tv rfl ((hag7 3 rfl).trans rfl))) ?_
    refine L_val (v := .int .i64 ((x2l : Nat) : Int)) (y_len Try.underlying43 rfl (map_ev1 (ev_tv rfl rfl))) ?_
    refine L_val (v := .pointer a_c1) (y_move (ev_tv rfl ((hag7 0 rfl).trans rfl))) ?_
    refine L_call (y_call Try.call16 (map_ev1 (ev_tv rfl rfl)) ev_f) (Calls.mono H ?_)
    clear H
    rintro _ w27 ⟨x26, x26l, x26c, rfl, H⟩
    refine ⟨_, rfl, ?_⟩
    refine L_val (v := .int .i64 ((x26l : Nat) : Int)) (y_len Try.underlying43 rfl (map_ev1 (ev_tv rfl rfl))) ?_
    obtain ⟨r29, hr35⟩ : ∃ r29 : Int, r29 = IntKind.wrap .i64 (((x2l : Nat) : Int) - ((x26l : Nat) : Int)) := ⟨_, rfl⟩
    replace H := H r29 hr35
    refine L_val (v := .int .i64 r29) (y_sub (ev_tv rfl rfl) (ev_tv rfl rfl) hr35) ?_
    refine L_val (v := .int .i64 r29) (y_assign (ev_tv rfl rfl)) ?_
    refine l_nil ?_
    refine then_norm ?_
    refine hK34 _ _ ?_
    clear hK34
    refine c_ret ?_
    exact body_1 rfl (ev_tv rfl rfl) H

/-- (parapet/buf.Cache).Dirty -/
def Vc15 (a_c1 : Option Addr) (w : World) (R : Ending → World → Prop) : Prop :=
  (Calls Try.prog 16 #[.pointer a_c1] w fun e w3 => ∃ x2 : Option Addr, ∃ x2l : Nat, ∃ x2c : Nat, e = .returned (.slice x2 x2l x2c) ∧ (∃ I5 : Nat → Option Addr → Nat → Nat → Int → World → Prop, (∃ m, I5 m none 0 0 0 w3) ∧ ∀ (m7 : Nat) (v5 : Option Addr) (v5l : Nat) (v5c : Nat) (v6 : Int) (w8 : World), I5 m7 v5 v5l v5c v6 w8 → ((((v6 : Int) < ((x2l : Nat) : Int)) → (∃ (b9 o10 : Nat), x2 = some ⟨b9, o10, none⟩ ∧ ((0 : Int) ≤ v6 ∧ v6 < ((x2l : Nat) : Int) ∧ (∃ x11 : Int, World.cell? w8 ⟨b9, o10 + (v6 : Int).toNat, none⟩ = some (.int .i64 x11) ∧ (∃ (b12 o13 : Nat), a_c1 = some ⟨b12, o13, none⟩ ∧ (∃ x14 : Option Nat, World.cell? w8 ⟨b12, o13 + 2, none⟩ = some (.map x14) ∧ (∃ x15 : Option Addr, (Instr.lookup 52 (.map x14) (.int .i64 x11) false).run Try.prog w8 = .ok (.pointer x15) w8 ∧ (∃ (b16 o17 : Nat), x15 = some ⟨b16, o17, none⟩ ∧ (∃ x18 : Bool, World.cell? w8 ⟨b16, o17 + 1, none⟩ = some (.bool x18) ∧ (((x18 = true) → (∀ (b19 : Nat) (w20 : World), b19 = World.heapSize w8 → w20 = World.alloc w8 (.cells #[.int .i64 x11] 3) → (∃ x22 : Option Addr, ∃ x22l : Nat, ∃ x22c : Nat, ∃ w21 : World, (Builtin.append_ #[43, 43] 43 #[.slice v5 v5l v5c, .slice (some ⟨b19, 0, none⟩) 1 1]).run Try.prog w20 = .ok (.slice x22 x22l x22c) w21 ∧ (∀ r23 : Int, r23 = IntKind.wrap .i64 (v6 + 1) → (∃ m24, m24 < m7 ∧ I5 m24 x22 x22l x22c r23 w21))))) ∧ ((x18 = false) → (∀ r25 : Int, r25 = IntKind.wrap .i64 (v6 + 1) → (∃ m26, m26 < m7 ∧ I5 m26 v5 v5l v5c r25 w8))))))))))))) ∧ ((¬ ((v6 : Int) < ((x2l : Nat) : Int))) → (Calls Try.prog 28 #[.slice v5 v5l v5c] w8 fun e w27 => e = .returned (.tuple #[]) ∧ R (.returned (.slice v5 v5l v5c)) w27)))))

theorem vc15 {a_c1 : Option Addr} {w : World} {R : Ending → World → Prop} (H : Vc15 a_c1 w R) : Calls Try.prog 15 #[.pointer a_c1] w R := by
  unfold Vc15 at H
  refine calls_start [.pointer a_c1] Try.func15 rfl Try.ntmps15 rfl ?_
  refine c_seq ?_
  intro K1 hK1
  refine c_region ?_
  refine L_val (v := .slice none 0 0) (y_assign ev_c) ?_
  refine l_nil ?_
  refine then_norm ?_
  refine hK1 _ _ ?_
  clear hK1
  refine c_seq ?_
  intro K2 hK2
  refine c_region ?_
  refine L_val (v := .slice none 0 0) (y_assign ev_c) ?_
  refine l_nil ?_
  refine then_norm ?_
  refine hK2 _ _ ?_
  clear hK2
  refine c_seq ?_
  intro K3 hK3
  refine c_seq ?_
  intro K4 hK4
  refine c_region ?_
  refine L_val (v := .pointer a_c1) (y_move (ev_tv rfl rfl)) ?_
  refine L_call (y_call Try.call16 (map_ev1 (ev_tv rfl rfl)) ev_f) (Calls.mono H ?_)
  clear H
  rintro _ w3 ⟨x2, x2l, x2c, rfl, H⟩
  refine ⟨_, rfl, ?_⟩
  refine L_val (v := .int .i64 ((x2l : Nat) : Int)) (y_len Try.underlying43 rfl (map_ev1 (ev_tv rfl rfl))) ?_
  refine L_val (v := .int .i64 0) (y_move ev_c) ?_
  refine l_nil ?_
  refine then_norm ?_
  refine hK4 _ _ ?_
  clear hK4
  refine c_block ?_
  obtain ⟨I5, ⟨m9, HI10⟩, H⟩ := H
  refine loop_fr ([(3, 3), (5, 5), (9, 26)]) (fun m ff ww => ∃ (v5 : Option Addr) (v5l : Nat) (v5c : Nat) (v6 : Int), ff 3 = (.slice v5 v5l v5c : Value) ∧ ff 9 = (.int .i64 v6 : Value) ∧ I5 m v5 v5l v5c v6 ww) m9 ⟨none, 0, 0, 0, rfl, rfl, HI10⟩ ?_
  rintro m7 f6 w8 hag7 ⟨v5, v5l, v5c, v6, hs11, hs12, HI8⟩
  replace H := H m7 v5 v5l v5c v6 w8 HI8
  refine c_seq ?_
  intro K13 hK13
  refine c_region ?_
  refine L_val (v := .bool (decide ((v6 : Int) < ((x2l : Nat) : Int)))) (y_lss (ev_tv rfl hs12) (ev_tv rfl ((hag7 8 rfl).trans rfl))) ?_
  refine l_nil ?_
  refine then_norm ?_
  refine hK13 _ _ ?_
  clear hK13
  refine c_seq ?_
  intro K14 hK14
  rcases (Decidable.em ((v6 : Int) < ((x2l : Nat) : Int))) with hb15 | hb15
  · replace H := H.1 hb15
    have hq16 : Value.bool (decide ((v6 : Int) < ((x2l : Nat) : Int))) = Value.bool true := congrArg Value.bool (decide_eq_true hb15)
    refine cond_t (ev_tv rfl hq16) ?_
    refine c_skip ?_
    refine then_norm ?_
    refine hK14 _ _ ?_
    clear hK14
    refine c_seq ?_
    intro K17 hK17
    refine c_block ?_
    refine c_seq ?_
    intro K18 hK18
    refine c_region ?_
    obtain ⟨b9, o10, rfl, H⟩ := H
    obtain ⟨hi19, hi20, H⟩ := H
    refine L_val (v := .pointer (some ⟨b9, o10 + (v6 : Int).toNat, none⟩)) (y_ix1 Try.underlying43 Try.type3 rfl (ev_tv rfl ((hag7 7 rfl).trans rfl)) (ev_tv rfl hs12) hi19 hi20) ?_
    obtain ⟨x11, hc21, H⟩ := H
    refine L_val (v := .int .i64 x11) (y_load Try.underlying3 rfl (ev_tv rfl rfl) hc21) ?_
    refine L_val (v := .int .i64 x11) (y_assign (ev_tv rfl rfl)) ?_
    refine l_nil ?_
    refine then_norm ?_
    refine hK18 _ _ ?_
    clear hK18
    refine c_seq ?_
    intro K22 hK22
    refine c_region ?_
    refine L_val (v := .pointer a_c1) (y_move (ev_tv rfl ((hag7 0 rfl).trans rfl))) ?_
    obtain ⟨b12, o13, rfl, H⟩ := H
    refine L_val (v := .pointer (some ⟨b12, o13, none⟩)) (y_nilCheck (ev_tv rfl rfl)) ?_
    refine L_val (v := .pointer (some ⟨b12, o13 + 2, none⟩)) (Try.fa56_2 (ev_tv rfl rfl)) ?_
    obtain ⟨x14, hc23, H⟩ := H
    refine L_val (v := .map x14) (y_load Try.underlying52 rfl (ev_tv rfl rfl) hc23) ?_
    refine L_val (v := .int .i64 x11) (y_move (ev_tv rfl rfl)) ?_
    obtain ⟨x15, hc24, H⟩ := H
    refine L_val (v := .pointer x15) (y_lookup (ev_tv rfl rfl) (ev_tv rfl rfl) hc24) ?_
    obtain ⟨b16, o17, rfl, H⟩ := H
    refine L_val (v := .pointer (some ⟨b16, o17, none⟩)) (y_nilCheck (ev_tv rfl rfl)) ?_
    refine L_val (v := .pointer (some ⟨b16, o17 + 1, none⟩)) (Try.fa62_1 (ev_tv rfl rfl)) ?_
    obtain ⟨x18, hc25, H⟩ := H
    refine L_val (v := .bool x18) (y_load Try.underlying4 rfl (ev_tv rfl rfl) hc25) ?_
    refine l_nil ?_
    refine then_norm ?_
    refine hK22 _ _ ?_
    clear hK22
    rcases Bool.eq_false_or_eq_true x18 with hb26 | hb26
    · replace H := H.1 hb26
      have hq27 : Value.bool (x18) = Value.bool true := congrArg Value.bool hb26
      refine cond_t (ev_tv rfl hq27) ?_
      refine c_region ?_
      refine L_val (v := .slice v5 v5l v5c) (y_move (ev_tv rfl hs11)) ?_
      refine L_val (v := .int .i64 x11) (y_move (ev_tv rfl rfl)) ?_
      obtain ⟨b19, hb28⟩ : ∃ b19 : Nat, b19 = World.heapSize w8 := ⟨_, rfl⟩
      obtain ⟨w20, hw29⟩ : ∃ w20 : World, w20 = World.alloc w8 (.cells #[.int .i64 x11] 3) := ⟨_, rfl⟩
      replace H := H b19 w20 hb28 hw29
      refine L_val (v := .slice (some ⟨b19, 0, none⟩) 1 1) (y_buildSlice (parts_ev1 (ev_tv rfl rfl)) hb28 hw29 (by kernel_rfl)) ?_
      obtain ⟨x22, x22l, x22c, w21, hc30, H⟩ := H
      refine L_val (v := .slice x22 x22l x22c) (y_bi_append (map_ev2 (ev_tv rfl rfl) (ev_tv rfl rfl)) hc30) ?_
      refine L_val (v := .slice x22 x22l x22c) (y_assign (ev_tv rfl rfl)) ?_
      refine l_nil ?_
      refine block_norm ?_
      refine then_norm ?_
      refine hK17 _ _ ?_
      clear hK17
      refine c_region ?_
      obtain ⟨r23, hr31⟩ : ∃ r23 : Int, r23 = IntKind.wrap .i64 (v6 + 1) := ⟨_, rfl⟩
      replace H := H r23 hr31
      refine L_val (v := .int .i64 r23) (y_add (ev_tv rfl hs12) ev_c hr31) ?_
      refine L_val (v := .int .i64 r23) (y_move (ev_tv rfl rfl)) ?_
      refine l_nil ?_
      refine then_norm ?_
      obtain ⟨m24, hm32, H⟩ := H
      exact ⟨_, rfl, (by repeat (first | exact agree_refl | exact hag7 | refine agree_upd rfl ?_ | refine agree_via hag7 rfl ?_)), m24, hm32, _, _, _, _, rfl, rfl, H⟩
    · replace H := H.2 hb26
      have hq27 : Value.bool (x18) = Value.bool false := congrArg Value.bool hb26
      refine cond_f (ev_tv rfl hq27) ?_
      refine c_skip ?_
      refine block_norm ?_
      refine then_norm ?_
      refine hK17 _ _ ?_
      clear hK17
      refine c_region ?_
      obtain ⟨r25, hr33⟩ : ∃ r25 : Int, r25 = IntKind.wrap .i64 (v6 + 1) := ⟨_, rfl⟩
      replace H := H r25 hr33
      refine L_val (v := .int .i64 r25) (y_add (ev_tv rfl hs12) ev_c hr33) ?_
      refine L_val (v := .int .i64 r25) (y_move (ev_tv rfl rfl)) ?_
      refine l_nil ?_
      refine then_norm ?_
      obtain ⟨m26, hm34, H⟩ := H
      exact ⟨_, rfl, (by repeat (first | exact agree_refl | exact hag7 | refine agree_upd rfl ?_ | refine agree_via hag7 rfl ?_)), m26, hm34, _, _, _, _, hs11, rfl, H⟩
  · replace H := H.2 hb15
    have hq16 : Value.bool (decide ((v6 : Int) < ((x2l : Nat) : Int))) = Value.bool false := congrArg Value.bool (decide_eq_false hb15)
    refine cond_f (ev_tv rfl hq16) ?_
    refine c_exit ?_
    refine then_exit ?_
    refine then_exit ?_
    refine block_hit ?_
    refine then_norm ?_
    refine hK3 _ _ ?_
    clear hK3
    refine c_seq ?_
    intro K35 hK35
    refine c_region ?_
    refine L_val (v := .slice v5 v5l v5c) (y_move (ev_tv rfl hs11)) ?_
    refine L_call (y_call Try.call28 (map_ev1 (ev_tv rfl rfl)) ev_f) (Calls.mono H ?_)
    clear H
    rintro _ w27 ⟨rfl, H⟩
    refine ⟨_, rfl, ?_⟩
    refine l_nil ?_
    refine then_norm ?_
    refine hK35 _ _ ?_
    clear hK35
    refine c_seq ?_
    intro K36 hK36
    refine c_region ?_
    refine L_val (v := .slice v5 v5l v5c) (y_move (ev_tv rfl hs11)) ?_
    refine L_val (v := .slice v5 v5l v5c) (y_assign (ev_tv rfl rfl)) ?_
    refine l_nil ?_
    refine then_norm ?_
    refine hK36 _ _ ?_
    clear hK36
    refine c_ret ?_
    exact body_1 rfl (ev_tv rfl rfl) H

/-- (parapet/buf.Cache).Kept -/
def Vc16 (a_c1 : Option Addr) (w : World) (R : Ending → World → Prop) : Prop :=
  (Calls Try.prog 21 #[.pointer a_c1] w fun e w3 => ∃ x2 : Bool, e = .returned (.bool x2) ∧ (((x2 = true) → (∃ (b5 o6 : Nat), a_c1 = some ⟨b5, o6, none⟩ ∧ (∃ x7 : Option Addr, ∃ x7l : Nat, ∃ x7c : Nat, World.cell? w3 ⟨b5, o6 + 3, none⟩ = some (.slice x7 x7l x7c) ∧ (Calls Try.prog 29 #[.slice x7 x7l x7c] w3 fun e w9 => ∃ x8 : Option Addr, ∃ x8l : Nat, ∃ x8c : Nat, e = .returned (.slice x8 x8l x8c) ∧ R (.returned (.slice x8 x8l x8c)) w9)))) ∧ ((x2 = false) → R (.returned (.slice none 0 0)) w3)))

theorem vc16 {a_c1 : Option Addr} {w : World} {R : Ending → World → Prop} (H : Vc16 a_c1 w R) : Calls Try.prog 16 #[.pointer a_c1] w R := by
  unfold Vc16 at H
  refine calls_start [.pointer a_c1] Try.func16 rfl Try.ntmps16 rfl ?_
  refine c_seq ?_
  intro K1 hK1
  refine c_region ?_
  refine L_val (v := .slice none 0 0) (y_assign ev_c) ?_
  refine l_nil ?_
  refine then_norm ?_
  refine hK1 _ _ ?_
  clear hK1
  refine c_seq ?_
  intro K2 hK2
  refine c_seq ?_
  intro K3 hK3
  refine c_region ?_
  refine L_val (v := .pointer a_c1) (y_move (ev_tv rfl rfl)) ?_
  refine L_call (y_call Try.call21 (map_ev1 (ev_tv rfl rfl)) ev_f) (Calls.mono H ?_)
  clear H
  rintro _ w3 ⟨x2, rfl, H⟩
  refine ⟨_, rfl, ?_⟩
  rcases Bool.eq_false_or_eq_true x2 with hb4 | hb4
  · replace H := H.1 hb4
    have hq5 : Value.bool (x2) = Value.bool true := congrArg Value.bool hb4
    refine L_val (v := .bool false) (y_not_t (ev_tv rfl hq5)) ?_
    refine l_nil ?_
    refine then_norm ?_
    refine hK3 _ _ ?_
    clear hK3
    refine cond_f (ev_tv rfl rfl) ?_
    refine c_skip ?_
    refine then_norm ?_
    refine hK2 _ _ ?_
    clear hK2
    refine c_seq ?_
    intro K6 hK6
    refine c_region ?_
    refine L_val (v := .pointer a_c1) (y_move (ev_tv rfl rfl)) ?_
    obtain ⟨b5, o6, rfl, H⟩ := H
    refine L_val (v := .pointer (some ⟨b5, o6, none⟩)) (y_nilCheck (ev_tv rfl rfl)) ?_
    refine L_val (v := .pointer (some ⟨b5, o6 + 3, none⟩)) (Try.fa56_3 (ev_tv rfl rfl)) ?_
    obtain ⟨x7, x7l, x7c, hc7, H⟩ := H
    refine L_val (v := .slice x7 x7l x7c) (y_load Try.underlying43 rfl (ev_tv rfl rfl) hc7) ?_
    refine L_call (y_call Try.call29 (map_ev1 (ev_tv rfl rfl)) ev_f) (Calls.mono H ?_)
    clear H
    rintro _ w9 ⟨x8, x8l, x8c, rfl, H⟩
    refine ⟨_, rfl, ?_⟩
    refine L_val (v := .slice x8 x8l x8c) (y_assign (ev_tv rfl rfl)) ?_
    refine l_nil ?_
    refine then_norm ?_
    refine hK6 _ _ ?_
    clear hK6
    refine c_ret ?_
    exact body_1 rfl (ev_tv rfl rfl) H
  · replace H := H.2 hb4
    have hq5 : Value.bool (x2) = Value.bool false := congrArg Value.bool hb4
    refine L_val (v := .bool true) (y_not_f (ev_tv rfl hq5)) ?_
    refine l_nil ?_
    refine then_norm ?_
    refine hK3 _ _ ?_
    clear hK3
    refine cond_t (ev_tv rfl rfl) ?_
    refine c_seq ?_
    intro K8 hK8
    refine c_region ?_
    refine L_val (v := .slice none 0 0) (y_assign ev_c) ?_
    refine l_nil ?_
    refine then_norm ?_
    refine hK8 _ _ ?_
    clear hK8
    refine c_ret ?_
    refine then_ret ?_
    exact body_1 rfl (ev_tv rfl rfl) H

/-- (parapet/disk.Disk).Flush -/
def Vc17 (a_d1 : Option Addr) (w : World) (R : Ending → World → Prop) : Prop :=
  (((a_d1 = none) → R (.returned (.int .i64 0)) w) ∧ ((a_d1 ≠ none) → (Calls Try.prog 30 #[.pointer a_d1] w fun e w3 => ∃ x2 : Bool, e = .returned (.bool x2) ∧ (((x2 = true) → (∃ J9 : World → Prop, (∀  (w5 : World), J9  w5 → (∃ (b6 o7 : Nat), a_d1 = some ⟨b6, o7, none⟩ ∧ (∃ x8 : Option Addr, ∃ x8l : Nat, ∃ x8c : Nat, World.cell? w5 ⟨b6, o7 + 1, none⟩ = some (.slice x8 x8l x8c) ∧ (Calls Try.prog 32 #[.pointer (some ⟨b6, o7, none⟩)] w5 fun e w9 => e = .returned (.tuple #[]) ∧ (∃ x11 : Int, World.cell? w9 ⟨b6, o7 + 7, none⟩ = some (.int .i64 x11) ∧ (∀ r12 : Int, r12 = IntKind.wrap .i64 (x11 + 1) → ((World.cell? w9 ⟨b6, o7 + 7, none⟩).isSome = true ∧ World.frozen? w9 ⟨b6, o7 + 7, none⟩ = false ∧ ∀ w13 : World, w13 = World.setCell w9 ⟨b6, o7 + 7, none⟩ (.int .i64 r12) → R (.returned (.int .i64 ((x8l : Nat) : Int))) w13))))))) ∧ (∃ (b14 o15 : Nat), a_d1 = some ⟨b14, o15, none⟩ ∧ (∃ x16 : Option Addr, ∃ x16l : Nat, ∃ x16c : Nat, World.cell? w3 ⟨b14, o15 + 1, none⟩ = some (.slice x16 x16l x16c) ∧ (∃ I27 : Nat → Int → World → Prop, (∃ m, I27 m 0 w3) ∧ ∀ (m18 : Nat) (v17 : Int) (w19 : World), I27 m18 v17 w19 → ((((v17 : Int) < ((x16l : Nat) : Int)) → (∃ (b20 o21 : Nat), x16 = some ⟨b20, o21, none⟩ ∧ ((0 : Int) ≤ v17 ∧ v17 < ((x16l : Nat) : Int) ∧ (∃ x22 : Int, ∃ x23 : Option Addr, ∃ x23l : Nat, ∃ x23c : Nat, CellsAt w19 ⟨b20, o21 + (v17 : Int).toNat * 2, none⟩ [.int .i64 x22, .slice x23 x23l x23c] ∧ (∀ (b24 : Nat) (w25 : World), b24 = World.heapSize w19 → w25 = World.alloc w19 (.cells #[.int .i64 0, .slice none 0 0] 66) → ((∀ j, j < 2 → (World.cell? w25 (Addr.add ⟨b24, 0, none⟩ j)).isSome = true ∧ World.frozen? w25 (Addr.add ⟨b24, 0, none⟩ j) = false) ∧ ∀ w26 : World, w26 = putCells w25 ⟨b24, 0, none⟩ [.int .i64 x22, .slice x23 x23l x23c] 0 → (∃ x27 : Int, World.cell? (w26.drew) ⟨b24, 0, none⟩ = some (.int .i64 x27) ∧ (∃ x28 : Option Addr, ∃ x28l : Nat, ∃ x28c : Nat, World.cell? (w26.drew) ⟨b24, 0 + 1, none⟩ = some (.slice x28 x28l x28c) ∧ (Calls Try.prog 31 #[.pointer (some ⟨b14, o15, none⟩), .int .i64 x27] (w26.drew) fun e w30 => ∃ x29 : Option Addr, ∃ x29l : Nat, ∃ x29c : Nat, e = .returned (.slice x29 x29l x29c) ∧ (World.cell? w30 ⟨b24, 0 + 1, none⟩ = some (.slice x28 x28l x28c) ∧ (∃ x32 : Int, ∃ w31 : World, (Builtin.copy_ #[33, 33] 3 #[.slice x29 x29l x29c, .slice x28 x28l x28c]).run Try.prog w30 = .ok (.int .i64 x32) w31 ∧ (∀ r33 : Int, r33 = IntKind.wrap .i64 (v17 + 1) → (∃ m34, m34 < m18 ∧ I27 m34 r33 w31))))))))))))) ∧ ((¬ ((v17 : Int) < ((x16l : Nat) : Int))) → J9  w19))))))) ∧ ((x2 = false) → R (.returned (.int .i64 0)) w3)))))

theorem vc17 {a_d1 : Option Addr} {w : World} {R : Ending → World → Prop} (H : Vc17 a_d1 w R) : Calls Try.prog 17 #[.pointer a_d1] w R := by
  unfold Vc17 at H
  refine calls_start [.pointer a_d1] Try.func17 rfl Try.ntmps17 rfl ?_
  refine c_seq ?_
  intro K1 hK1
  refine c_region ?_
  refine L_val (v := .int .i64 0) (y_assign ev_c) ?_
  refine l_nil ?_
  refine then_norm ?_
  refine hK1 _ _ ?_
  clear hK1
  refine c_seq ?_
  intro K2 hK2
  refine c_seq ?_
  intro K3 hK3
  refine c_region ?_
  refine L_val (v := .pointer a_d1) (y_move (ev_tv rfl rfl)) ?_
  refine L_val (v := .bool (a_d1.isNone)) (y_peq Try.underlying23 (ev_tv rfl rfl) ev_c) ?_
  refine L_val (v := .bool (a_d1.isNone)) (y_move (ev_tv rfl rfl)) ?_
  rcases (Classical.em (a_d1 = none)) with hb4 | hb4
  · replace H := H.1 hb4
    have hq5 : Value.bool (a_d1.isNone) = Value.bool true := congrArg Value.bool (isn_t hb4)
    refine G_not (b' := true) (dj := 8) rfl rfl hq5 rfl ?_
    refine G_not (b' := true) (dj := 8) rfl rfl hq5 rfl ?_
    refine G_not (b' := true) (dj := 8) rfl rfl hq5 rfl ?_
    refine L_val (v := .bool true) (y_pick_t (ev_tv rfl hq5) ev_c) ?_
    refine l_nil ?_
    refine then_norm ?_
    refine hK3 _ _ ?_
    clear hK3
    refine cond_t (ev_tv rfl rfl) ?_
    refine c_seq ?_
    intro K6 hK6
    refine c_region ?_
    refine L_val (v := .int .i64 0) (y_assign ev_c) ?_
    refine l_nil ?_
    refine then_norm ?_
    refine hK6 _ _ ?_
    clear hK6
    refine c_ret ?_
    refine then_ret ?_
    exact body_1 rfl (ev_tv rfl rfl) H
  · replace H := H.2 hb4
    have hq5 : Value.bool (a_d1.isNone) = Value.bool false := congrArg Value.bool (isn_f hb4)
    refine G_val (dj := 8) rfl rfl hq5 (v := .pointer a_d1) (y_move (ev_tv rfl rfl)) ?_
    refine G_call (dj := 8) rfl rfl hq5 (y_call Try.call30 (map_ev1 (ev_tv rfl rfl)) ev_f) (Calls.mono H ?_)
    clear H
    rintro _ w3 ⟨x2, rfl, H⟩
    refine ⟨_, rfl, ?_⟩
    rcases Bool.eq_false_or_eq_true x2 with hb7 | hb7
    · replace H := H.1 hb7
      have hq8 : Value.bool (x2) = Value.bool true := congrArg Value.bool hb7
      refine G_val (dj := 8) rfl rfl hq5 (v := .bool false) (y_not_t (ev_tv rfl hq8)) ?_
      refine L_val (v := .bool false) (y_pick_f (ev_tv rfl hq5) (ev_tv rfl rfl)) ?_
      refine l_nil ?_
      refine then_norm ?_
      refine hK3 _ _ ?_
      clear hK3
      refine cond_f (ev_tv rfl rfl) ?_
      refine c_skip ?_
      refine then_norm ?_
      refine hK2 _ _ ?_
      clear hK2
      obtain ⟨J9, hJ10, H⟩ := H
      refine c_seqJ [(4, 4), (13, 29)] (fun ff ww => J9  ww) ?_ ?_
      · clear hJ10
        intro K14 hK14
        refine c_seq ?_
        intro K25 hK25
        refine c_region ?_
        refine L_val (v := .pointer a_d1) (y_move (ev_tv rfl rfl)) ?_
        obtain ⟨b14, o15, rfl, H⟩ := H
        refine L_val (v := .pointer (some ⟨b14, o15, none⟩)) (y_nilCheck (ev_tv rfl rfl)) ?_
        refine L_val (v := .pointer (some ⟨b14, o15 + 1, none⟩)) (Try.fa51_1 (ev_tv rfl rfl)) ?_
        obtain ⟨x16, x16l, x16c, hc26, H⟩ := H
        refine L_val (v := .slice x16 x16l x16c) (y_load Try.underlying49 rfl (ev_tv rfl rfl) hc26) ?_
        refine L_val (v := .int .i64 ((x16l : Nat) : Int)) (y_len Try.underlying49 rfl (map_ev1 (ev_tv rfl rfl))) ?_
        refine L_val (v := .int .i64 0) (y_move ev_c) ?_
        refine l_nil ?_
        refine then_norm ?_
        refine hK25 _ _ ?_
        clear hK25
        refine c_block ?_
        obtain ⟨I27, ⟨m31, HI32⟩, H⟩ := H
        refine loop_fr ([(4, 4), (18, 29)]) (fun m ff ww => ∃ (v17 : Int), ff 18 = (.int .i64 v17 : Value) ∧ I27 m v17 ww) m31 ⟨0, rfl, HI32⟩ ?_
        rintro m18 f28 w19 hag29 ⟨v17, hs33, HI30⟩
        replace H := H m18 v17 w19 HI30
        refine c_seq ?_
        intro K34 hK34
        refine c_region ?_
        refine L_val (v := .bool (decide ((v17 : Int) < ((x16l : Nat) : Int)))) (y_lss (ev_tv rfl hs33) (ev_tv rfl ((hag29 17 rfl).trans rfl))) ?_
        refine l_nil ?_
        refine then_norm ?_
        refine hK34 _ _ ?_
        clear hK34
        refine c_seq ?_
        intro K35 hK35
        rcases (Decidable.em ((v17 : Int) < ((x16l : Nat) : Int))) with hb36 | hb36
        · replace H := H.1 hb36
          have hq37 : Value.bool (decide ((v17 : Int) < ((x16l : Nat) : Int))) = Value.bool true := congrArg Value.bool (decide_eq_true hb36)
          refine cond_t (ev_tv rfl hq37) ?_
          refine c_skip ?_
          refine then_norm ?_
          refine hK35 _ _ ?_
          clear hK35
          refine c_seq ?_
          intro K38 hK38
          refine c_block ?_
          refine c_seq ?_
          intro K39 hK39
          refine c_region ?_
          obtain ⟨b20, o21, rfl, H⟩ := H
          obtain ⟨hi40, hi41, H⟩ := H
          refine L_val (v := .pointer (some ⟨b20, o21 + (v17 : Int).toNat * 2, none⟩)) (y_ix Try.underlying49 Try.type66 rfl (ev_tv rfl ((hag29 16 rfl).trans rfl)) (ev_tv rfl hs33) hi40 hi41) ?_
          obtain ⟨x22, x23, x23l, x23c, hc42, H⟩ := H
          refine L_val (v := .agg #[.int .i64 x22, .slice x23 x23l x23c]) (y_loadAgg Try.underlying66 rfl Try.type66 rfl (ev_tv rfl rfl) hc42) ?_
          obtain ⟨b24, hb43⟩ : ∃ b24 : Nat, b24 = World.heapSize w19 := ⟨_, rfl⟩
          obtain ⟨w25, hw44⟩ : ∃ w25 : World, w25 = World.alloc w19 (.cells #[.int .i64 0, .slice none 0 0] 66) := ⟨_, rfl⟩
          replace H := H b24 w25 hb43 hw44
          refine L_val (v := .pointer (some ⟨b24, 0, none⟩)) (y_alloc Try.type66 rfl rfl hb43 hw44) ?_
          obtain ⟨hc45, H⟩ := H
          obtain ⟨w26, hw47⟩ : ∃ w26 : World, w26 = putCells w25 ⟨b24, 0, none⟩ [.int .i64 x22, .slice x23 x23l x23c] 0 := ⟨_, rfl⟩
          replace H := H w26 hw47
          refine L_skip (y_storeAgg Try.type66 rfl (by intro v hv; simp only [List.mem_cons, List.not_mem_nil, or_false] at hv; rcases hv with rfl | rfl <;> rfl) (ev_tv rfl rfl) (ev_tv rfl rfl) hc45 hw47) ?_
          refine l_nil ?_
          refine then_norm ?_
          refine hK39 _ _ ?_
          clear hK39
          refine D_start Try.mixed rfl [3, 6] ?_
          refine start_keep fun hS => ?_
          refine D_pure (i := 0) (v := .pointer (some ⟨b14, o15, none⟩)) rfl (by kernel_rfl) (W_none rfl) (fun _ => y_move (ev_tv rfl ((hag29 0 rfl).trans rfl))) hS ?_
          intro hS
          refine D_pure (i := 1) (v := .pointer (some ⟨b24, 0, none⟩)) rfl (by kernel_rfl) (W_none rfl) (fun _ => Try.fa66_0 (ev_tv rfl rfl)) hS ?_
          intro hS
          refine D_pure (i := 4) (v := .pointer (some ⟨b24, 0 + 1, none⟩)) rfl (by kernel_rfl) (W_none rfl) (fun _ => Try.fa66_1 (ev_tv rfl rfl)) hS ?_
          intro hS
          obtain ⟨x27, hc48, H⟩ := H
          refine D_read (i := 2) (v := .int .i64 x27) rfl (by kernel_rfl) (W_none rfl) (fun wx => World.cell? wx ⟨b24, 0, none⟩ = some (.int .i64 x27)) hc48 (fun _ hcx => y_load Try.underlying3 rfl (ev_tv rfl rfl) hcx) hS ?_
          intro hS
          obtain ⟨x28, x28l, x28c, hc49, H⟩ := H
          refine D_read (i := 5) (v := .slice x28 x28l x28c) rfl (by kernel_rfl) (W_none rfl) (fun wx => World.cell? wx ⟨b24, 0 + 1, none⟩ = some (.slice x28 x28l x28c)) hc49 (fun _ hcx => y_load Try.underlying33 rfl (ev_tv rfl rfl) hcx) hS ?_
          intro hS
          refine D_only (i := 3) (by kernel_rfl) rfl ?_
          refine O_call (i := 3) rfl (W_none rfl) (y_call Try.call31 (map_ev2 (ev_tv rfl rfl) (ev_tv rfl rfl)) ev_f) (Calls.mono H ?_)
          clear H
          rintro _ w30 ⟨x29, x29l, x29c, rfl, H⟩
          refine ⟨_, rfl, ?_⟩
          obtain ⟨hs53, H⟩ := H
          refine and_keep (SS_on hs53 (SS_off (by kernel_rfl) SS_nil)) fun hS => ?_
          refine D_only (i := 6) (by kernel_rfl) rfl ?_
          obtain ⟨x32, w31, hc50, H⟩ := H
          refine O_val (i := 6) (v := .int .i64 x32) rfl (W_none rfl) (y_bi_copy (map_ev2 (ev_tv rfl rfl) (ev_tv rfl rfl)) hc50) ?_
          refine and_keep (SS_off (by kernel_rfl) (SS_off (by kernel_rfl) SS_nil)) fun hS => ?_
          refine D_done (by kernel_rfl) ?_
          refine block_norm ?_
          refine then_norm ?_
          refine hK38 _ _ ?_
          clear hK38
          refine c_region ?_
          obtain ⟨r33, hr51⟩ : ∃ r33 : Int, r33 = IntKind.wrap .i64 (v17 + 1) := ⟨_, rfl⟩
          replace H := H r33 hr51
          refine L_val (v := .int .i64 r33) (y_add (ev_tv rfl hs33) ev_c hr51) ?_
          refine L_val (v := .int .i64 r33) (y_move (ev_tv rfl rfl)) ?_
          refine l_nil ?_
          refine then_norm ?_
          obtain ⟨m34, hm52, H⟩ := H
          exact ⟨_, rfl, (by repeat (first | exact agree_refl | exact hag29 | refine agree_upd rfl ?_ | refine agree_via hag29 rfl ?_)), m34, hm52, _, rfl, H⟩
        · replace H := H.2 hb36
          have hq37 : Value.bool (decide ((v17 : Int) < ((x16l : Nat) : Int))) = Value.bool false := congrArg Value.bool (decide_eq_false hb36)
          refine cond_f (ev_tv rfl hq37) ?_
          refine c_exit ?_
          refine then_exit ?_
          refine then_exit ?_
          refine block_hit ?_
          refine then_norm ?_
          exact hK14 _ _ (by repeat (first | exact agree_refl | exact hag29 | refine agree_upd rfl ?_ | refine agree_via hag29 rfl ?_)) H
      · clear H
        intro f11 w5 hag12 HJ13
        have H := hJ10  w5 HJ13
        clear hJ10
        refine c_seq ?_
        intro K15 hK15
        refine c_region ?_
        refine L_val (v := .pointer a_d1) (y_move (ev_tv rfl ((hag12 0 rfl).trans rfl))) ?_
        obtain ⟨b6, o7, rfl, H⟩ := H
        refine L_val (v := .pointer (some ⟨b6, o7, none⟩)) (y_nilCheck (ev_tv rfl rfl)) ?_
        refine L_val (v := .pointer (some ⟨b6, o7 + 1, none⟩)) (Try.fa51_1 (ev_tv rfl rfl)) ?_
        obtain ⟨x8, x8l, x8c, hc16, H⟩ := H
        refine L_val (v := .slice x8 x8l x8c) (y_load Try.underlying49 rfl (ev_tv rfl rfl) hc16) ?_
        refine L_val (v := .int .i64 ((x8l : Nat) : Int)) (y_len Try.underlying49 rfl (map_ev1 (ev_tv rfl rfl))) ?_
        refine L_val (v := .int .i64 ((x8l : Nat) : Int)) (y_assign (ev_tv rfl rfl)) ?_
        refine l_nil ?_
        refine then_norm ?_
        refine hK15 _ _ ?_
        clear hK15
        refine c_seq ?_
        intro K17 hK17
        refine c_region ?_
        refine L_val (v := .pointer (some ⟨b6, o7, none⟩)) (y_move (ev_tv rfl ((hag12 0 rfl).trans rfl))) ?_
        refine L_call (y_call Try.call32 (map_ev1 (ev_tv rfl rfl)) ev_f) (Calls.mono H ?_)
        clear H
        rintro _ w9 ⟨rfl, H⟩
        refine ⟨_, rfl, ?_⟩
        refine l_nil ?_
        refine then_norm ?_
        refine hK17 _ _ ?_
        clear hK17
        refine c_seq ?_
        intro K18 hK18
        refine c_region ?_
        refine L_val (v := .pointer (some ⟨b6, o7, none⟩)) (y_move (ev_tv rfl ((hag12 0 rfl).trans rfl))) ?_
        refine L_val (v := .pointer (some ⟨b6, o7, none⟩)) (y_nilCheck (ev_tv rfl rfl)) ?_
        refine L_val (v := .pointer (some ⟨b6, o7 + 7, none⟩)) (Try.fa51_7 (ev_tv rfl rfl)) ?_
        obtain ⟨x11, hc19, H⟩ := H
        refine L_val (v := .int .i64 x11) (y_load Try.underlying3 rfl (ev_tv rfl rfl) hc19) ?_
        obtain ⟨r12, hr20⟩ : ∃ r12 : Int, r12 = IntKind.wrap .i64 (x11 + 1) := ⟨_, rfl⟩
        replace H := H r12 hr20
        refine L_val (v := .int .i64 r12) (y_add (ev_tv rfl rfl) ev_c hr20) ?_
        refine L_val (v := .pointer (some ⟨b6, o7, none⟩)) (y_nilCheck (ev_tv rfl rfl)) ?_
        refine L_val (v := .pointer (some ⟨b6, o7 + 7, none⟩)) (Try.fa51_7 (ev_tv rfl rfl)) ?_
        obtain ⟨hc21, hf22, H⟩ := H
        obtain ⟨w13, hw23⟩ : ∃ w13 : World, w13 = World.setCell w9 ⟨b6, o7 + 7, none⟩ (.int .i64 r12) := ⟨_, rfl⟩
        replace H := H w13 hw23
        refine L_skip (y_store Try.type3 rfl rfl (ev_tv rfl rfl) (ev_tv rfl rfl) hc21 hf22 hw23) ?_
        refine l_nil ?_
        refine then_norm ?_
        refine hK18 _ _ ?_
        clear hK18
        refine c_seq ?_
        intro K24 hK24
        refine c_region ?_
        refine L_val (v := .int .i64 ((x8l : Nat) : Int)) (y_move (ev_tv rfl rfl)) ?_
        refine L_val (v := .int .i64 ((x8l : Nat) : Int)) (y_assign (ev_tv rfl rfl)) ?_
        refine l_nil ?_
        refine then_norm ?_
        refine hK24 _ _ ?_
        clear hK24
        refine c_ret ?_
        exact body_1 rfl (ev_tv rfl rfl) H
    · replace H := H.2 hb7
      have hq8 : Value.bool (x2) = Value.bool false := congrArg Value.bool hb7
      refine G_val (dj := 8) rfl rfl hq5 (v := .bool true) (y_not_f (ev_tv rfl hq8)) ?_
      refine L_val (v := .bool true) (y_pick_f (ev_tv rfl hq5) (ev_tv rfl rfl)) ?_
      refine l_nil ?_
      refine then_norm ?_
      refine hK3 _ _ ?_
      clear hK3
      refine cond_t (ev_tv rfl rfl) ?_
      refine c_seq ?_
      intro K54 hK54
      refine c_region ?_
      refine L_val (v := .int .i64 0) (y_assign ev_c) ?_
      refine l_nil ?_
      refine then_norm ?_
      refine hK54 _ _ ?_
      clear hK54
      refine c_ret ?_
      refine then_ret ?_
      exact body_1 rfl (ev_tv rfl rfl) H

/-- (parapet/disk.Disk).Crash -/
def Vc18 (a_d1 : Option Addr) (a_l2 : Option Addr) (a_l2l : Nat) (a_l2c : Nat) (w : World) (R : Ending → World → Prop) : Prop :=
  (((a_d1 = none) → R (.returned (.int .i64 6)) w) ∧ ((a_d1 ≠ none) → (∃ J7 : World → Prop, (∀  (w3 : World), J7  w3 → (∃ J13 : World → Prop, (∀  (w4 : World), J13  w4 → (Calls Try.prog 32 #[.pointer a_d1] w4 fun e w5 => e = .returned (.tuple #[]) ∧ (∃ (b7 o8 : Nat), a_d1 = some ⟨b7, o8, none⟩ ∧ ((World.cell? w5 ⟨b7, o8 + 3, none⟩).isSome = true ∧ World.frozen? w5 ⟨b7, o8 + 3, none⟩ = false ∧ ∀ w9 : World, w9 = World.setCell w5 ⟨b7, o8 + 3, none⟩ (.bool false) → ((World.cell? w9 ⟨b7, o8 + 4, none⟩).isSome = true ∧ World.frozen? w9 ⟨b7, o8 + 4, none⟩ = false ∧ ∀ w10 : World, w10 = World.setCell w9 ⟨b7, o8 + 4, none⟩ (.int .i64 0) → R (.returned (.int .i64 0)) w10))))) ∧ (∃ I29 : Nat → Int → World → Prop, (∃ m, I29 m 0 w3) ∧ ∀ (m12 : Nat) (v11 : Int) (w13 : World), I29 m12 v11 w13 → ((((v11 : Int) < ((a_l2l : Nat) : Int)) → (∃ (b14 o15 : Nat), a_l2 = some ⟨b14, o15, none⟩ ∧ ((0 : Int) ≤ v11 ∧ v11 < ((a_l2l : Nat) : Int) ∧ (∃ x16 : Int, ∃ x17 : Int, CellsAt w13 ⟨b14, o15 + (v11 : Int).toNat * 2, none⟩ [.int .i64 x16, .int .i64 x17] ∧ (∀ (b18 : Nat) (w19 : World), b18 = World.heapSize w13 → w19 = World.alloc w13 (.cells #[.int .i64 0, .int .i64 0] 70) → ((∀ j, j < 2 → (World.cell? w19 (Addr.add ⟨b18, 0, none⟩ j)).isSome = true ∧ World.frozen? w19 (Addr.add ⟨b18, 0, none⟩ j) = false) ∧ ∀ w20 : World, w20 = putCells w19 ⟨b18, 0, none⟩ [.int .i64 x16, .int .i64 x17] 0 → (∃ (b21 o22 : Nat), a_d1 = some ⟨b21, o22, none⟩ ∧ (∃ x23 : Option Addr, ∃ x23l : Nat, ∃ x23c : Nat, World.cell? (w20.drew) ⟨b21, o22 + 1, none⟩ = some (.slice x23 x23l x23c) ∧ (∃ x24 : Int, World.cell? (w20.drew) ⟨b18, 0, none⟩ = some (.int .i64 x24) ∧ (∃ (b25 o26 : Nat), x23 = some ⟨b25, o26, none⟩ ∧ ((0 : Int) ≤ x24 ∧ x24 < ((x23l : Nat) : Int) ∧ (∃ x27 : Int, ∃ x28 : Option Addr, ∃ x28l : Nat, ∃ x28c : Nat, CellsAt (w20.drew) ⟨b25, o26 + (x24 : Int).toNat * 2, none⟩ [.int .i64 x27, .slice x28 x28l x28c] ∧ (∀ (b29 : Nat) (w30 : World), b29 = World.heapSize (w20.drew) → w30 = World.alloc (w20.drew) (.cells #[.int .i64 0, .slice none 0 0] 66) → (CellsAt w30 ⟨b25, o26 + (x24 : Int).toNat * 2, none⟩ [.int .i64 x27, .slice x28 x28l x28c] ∧ World.cell? w30 ⟨b18, 0, none⟩ = some (.int .i64 x24) ∧ World.cell? w30 ⟨b21, o22 + 1, none⟩ = some (.slice x23 x23l x23c) ∧ ((∀ j, j < 2 → (World.cell? w30 (Addr.add ⟨b29, 0, none⟩ j)).isSome = true ∧ World.frozen? w30 (Addr.add ⟨b29, 0, none⟩ j) = false) ∧ ∀ w31 : World, w31 = putCells w30 ⟨b29, 0, none⟩ [.int .i64 x27, .slice x28 x28l x28c] 0 → (∃ x32 : Int, World.cell? (w31.drew) ⟨b29, 0, none⟩ = some (.int .i64 x32) ∧ (∃ x33 : Option Addr, ∃ x33l : Nat, ∃ x33c : Nat, World.cell? (w31.drew) ⟨b29, 0 + 1, none⟩ = some (.slice x33 x33l x33c) ∧ (∃ x34 : Int, World.cell? (w31.drew) ⟨b18, 0 + 1, none⟩ = some (.int .i64 x34) ∧ ((0 : Int) ≤ x34 ∧ x34 ≤ ((x33c : Nat) : Int) ∧ ∀ a35 : Option Addr, a35 = x33 → (Calls Try.prog 31 #[.pointer (some ⟨b21, o22, none⟩), .int .i64 x32] (w31.drew) fun e w37 => ∃ x36 : Option Addr, ∃ x36l : Nat, ∃ x36c : Nat, e = .returned (.slice x36 x36l x36c) ∧ (World.cell? w37 ⟨b18, 0 + 1, none⟩ = some (.int .i64 x34) ∧ World.cell? w37 ⟨b29, 0 + 1, none⟩ = some (.slice x33 x33l x33c) ∧ (∃ x39 : Int, ∃ w38 : World, (Builtin.copy_ #[33, 33] 3 #[.slice x36 x36l x36c, .slice a35 ((x34 : Int).toNat) x33c]).run Try.prog w37 = .ok (.int .i64 x39) w38 ∧ (World.cell? w38 ⟨b18, 0 + 1, none⟩ = some (.int .i64 x34) ∧ World.cell? w38 ⟨b29, 0 + 1, none⟩ = some (.slice x33 x33l x33c) ∧ (∀ r40 : Int, r40 = IntKind.wrap .i64 (v11 + 1) → (∃ m41, m41 < m12 ∧ I29 m41 r40 w38))))))))))))))))))))))))) ∧ ((¬ ((v11 : Int) < ((a_l2l : Nat) : Int))) → J13  w13))))) ∧ (∃ I78 : Nat → Int → World → Prop, (∃ m, I78 m 0 w) ∧ ∀ (m43 : Nat) (v42 : Int) (w44 : World), I78 m43 v42 w44 → ((((v42 : Int) < ((a_l2l : Nat) : Int)) → (∃ (b45 o46 : Nat), a_l2 = some ⟨b45, o46, none⟩ ∧ ((0 : Int) ≤ v42 ∧ v42 < ((a_l2l : Nat) : Int) ∧ (∃ x47 : Int, ∃ x48 : Int, CellsAt w44 ⟨b45, o46 + (v42 : Int).toNat * 2, none⟩ [.int .i64 x47, .int .i64 x48] ∧ (∀ (b49 : Nat) (w50 : World), b49 = World.heapSize w44 → w50 = World.alloc w44 (.cells #[.int .i64 0, .int .i64 0] 70) → ((∀ j, j < 2 → (World.cell? w50 (Addr.add ⟨b49, 0, none⟩ j)).isSome = true ∧ World.frozen? w50 (Addr.add ⟨b49, 0, none⟩ j) = false) ∧ ∀ w51 : World, w51 = putCells w50 ⟨b49, 0, none⟩ [.int .i64 x47, .int .i64 x48] 0 → (∃ x52 : Int, World.cell? (w51.drew) ⟨b49, 0, none⟩ = some (.int .i64 x52) ∧ ((((x52 : Int) < 0) → R (.returned (.int .i64 1)) (w51.drew)) ∧ ((¬ ((x52 : Int) < 0)) → (∃ (b53 o54 : Nat), a_d1 = some ⟨b53, o54, none⟩ ∧ (∃ x55 : Int, World.cell? (w51.drew) ⟨b49, 0, none⟩ = some (.int .i64 x55) ∧ (∃ x56 : Option Addr, ∃ x56l : Nat, ∃ x56c : Nat, World.cell? (w51.drew) ⟨b53, o54 + 1, none⟩ = some (.slice x56 x56l x56c) ∧ ((((((x56l : Nat) : Int) : Int) ≤ x55) → R (.returned (.int .i64 1)) (w51.drew)) ∧ ((¬ ((((x56l : Nat) : Int) : Int) ≤ x55)) → ((((0 : Int) < v42) → (∀ r57 : Int, r57 = IntKind.wrap .i64 (v42 - 1) → ((0 : Int) ≤ r57 ∧ r57 < ((a_l2l : Nat) : Int) ∧ (∃ x58 : Int, World.cell? (w51.drew) ⟨b49, 0, none⟩ = some (.int .i64 x58) ∧ (∃ x59 : Int, World.cell? (w51.drew) ⟨b45, o46 + (r57 : Int).toNat * 2, none⟩ = some (.int .i64 x59) ∧ ((((x58 : Int) ≤ x59) → R (.returned (.int .i64 1)) (w51.drew)) ∧ ((¬ ((x58 : Int) ≤ x59)) → (∃ x60 : Int, World.cell? (w51.drew) ⟨b49, 0 + 1, none⟩ = some (.int .i64 x60) ∧ ((((x60 : Int) < 1) → R (.returned (.int .i64 1)) (w51.drew)) ∧ ((¬ ((x60 : Int) < 1)) → (∃ x61 : Int, World.cell? (w51.drew) ⟨b49, 0 + 1, none⟩ = some (.int .i64 x61) ∧ ((((512 : Int) < x61) → R (.returned (.int .i64 1)) (w51.drew)) ∧ ((¬ ((512 : Int) < x61)) → (∀ r62 : Int, r62 = IntKind.wrap .i64 (v42 + 1) → (∃ m63, m63 < m43 ∧ I78 m63 r62 (w51.drew)))))))))))))))) ∧ ((¬ ((0 : Int) < v42)) → (∃ x64 : Int, World.cell? (w51.drew) ⟨b49, 0 + 1, none⟩ = some (.int .i64 x64) ∧ ((((x64 : Int) < 1) → R (.returned (.int .i64 1)) (w51.drew)) ∧ ((¬ ((x64 : Int) < 1)) → (∃ x65 : Int, World.cell? (w51.drew) ⟨b49, 0 + 1, none⟩ = some (.int .i64 x65) ∧ ((((512 : Int) < x65) → R (.returned (.int .i64 1)) (w51.drew)) ∧ ((¬ ((512 : Int) < x65)) → (∀ r66 : Int, r66 = IntKind.wrap .i64 (v42 + 1) → (∃ m67, m67 < m43 ∧ I78 m67 r66 (w51.drew))))))))))))))))))))))))) ∧ ((¬ ((v42 : Int) < ((a_l2l : Nat) : Int))) → J7  w44))))))

theorem vc18 {a_d1 : Option Addr} {a_l2 : Option Addr} {a_l2l : Nat} {a_l2c : Nat} {w : World} {R : Ending → World → Prop} (H : Vc18 a_d1 a_l2 a_l2l a_l2c w R) : Calls Try.prog 18 #[.pointer a_d1, .slice a_l2 a_l2l a_l2c] w R := by
  unfold Vc18 at H
  refine calls_start [.pointer a_d1, .slice a_l2 a_l2l a_l2c] Try.func18 rfl Try.ntmps18 rfl ?_
  refine c_seq ?_
  intro K1 hK1
  refine c_region ?_
  refine L_val (v := .int .i64 0) (y_assign ev_c) ?_
  refine l_nil ?_
  refine then_norm ?_
  refine hK1 _ _ ?_
  clear hK1
  refine c_seq ?_
  intro K2 hK2
  refine c_seq ?_
  intro K3 hK3
  refine c_region ?_
  refine L_val (v := .pointer a_d1) (y_move (ev_tv rfl rfl)) ?_
  refine L_val (v := .bool (a_d1.isNone)) (y_peq Try.underlying23 (ev_tv rfl rfl) ev_c) ?_
  refine l_nil ?_
  refine then_norm ?_
  refine hK3 _ _ ?_
  clear hK3
  rcases (Classical.em (a_d1 = none)) with hb4 | hb4
  · replace H := H.1 hb4
    have hq5 : Value.bool (a_d1.isNone) = Value.bool true := congrArg Value.bool (isn_t hb4)
    refine cond_t (ev_tv rfl hq5) ?_
    refine c_seq ?_
    intro K6 hK6
    refine c_region ?_
    refine L_val (v := .int .i64 6) (y_assign ev_c) ?_
    refine l_nil ?_
    refine then_norm ?_
    refine hK6 _ _ ?_
    clear hK6
    refine c_ret ?_
    refine then_ret ?_
    exact body_1 rfl (ev_tv rfl rfl) H
  · replace H := H.2 hb4
    have hq5 : Value.bool (a_d1.isNone) = Value.bool false := congrArg Value.bool (isn_f hb4)
    refine cond_f (ev_tv rfl hq5) ?_
    refine c_skip ?_
    refine then_norm ?_
    refine hK2 _ _ ?_
    clear hK2
    obtain ⟨J7, hJ8, H⟩ := H
    refine c_seqJ [(4, 6), (12, 57)] (fun ff ww => J7  ww) ?_ ?_
    · clear hJ8
      intro K12 hK12
      refine c_seq ?_
      intro K77 hK77
      refine c_region ?_
      refine L_val (v := .slice a_l2 a_l2l a_l2c) (y_move (ev_tv rfl rfl)) ?_
      refine L_val (v := .int .i64 ((a_l2l : Nat) : Int)) (y_len Try.underlying68 rfl (map_ev1 (ev_tv rfl rfl))) ?_
      refine L_val (v := .int .i64 0) (y_move ev_c) ?_
      refine l_nil ?_
      refine then_norm ?_
      refine hK77 _ _ ?_
      clear hK77
      refine c_block ?_
      obtain ⟨I78, ⟨m82, HI83⟩, H⟩ := H
      refine loop_fr ([(4, 6), (14, 57)]) (fun m ff ww => ∃ (v42 : Int), ff 14 = (.int .i64 v42 : Value) ∧ I78 m v42 ww) m82 ⟨0, rfl, HI83⟩ ?_
      rintro m43 f79 w44 hag80 ⟨v42, hs84, HI81⟩
      replace H := H m43 v42 w44 HI81
      refine c_seq ?_
      intro K85 hK85
      refine c_region ?_
      refine L_val (v := .bool (decide ((v42 : Int) < ((a_l2l : Nat) : Int)))) (y_lss (ev_tv rfl hs84) (ev_tv rfl ((hag80 13 rfl).trans rfl))) ?_
      refine l_nil ?_
      refine then_norm ?_
      refine hK85 _ _ ?_
      clear hK85
      refine c_seq ?_
      intro K86 hK86
      rcases (Decidable.em ((v42 : Int) < ((a_l2l : Nat) : Int))) with hb87 | hb87
      · replace H := H.1 hb87
        have hq88 : Value.bool (decide ((v42 : Int) < ((a_l2l : Nat) : Int))) = Value.bool true := congrArg Value.bool (decide_eq_true hb87)
        refine cond_t (ev_tv rfl hq88) ?_
        refine c_skip ?_
        refine then_norm ?_
        refine hK86 _ _ ?_
        clear hK86
        refine c_seq ?_
        intro K89 hK89
        refine c_block ?_
        refine c_seq ?_
        intro K90 hK90
        refine c_region ?_
        refine L_val (v := .int .i64 v42) (y_move (ev_tv rfl hs84)) ?_
        obtain ⟨b45, o46, rfl, H⟩ := H
        obtain ⟨hi91, hi92, H⟩ := H
        refine L_val (v := .pointer (some ⟨b45, o46 + (v42 : Int).toNat * 2, none⟩)) (y_ix Try.underlying68 Try.type70 rfl (ev_tv rfl ((hag80 12 rfl).trans rfl)) (ev_tv rfl hs84) hi91 hi92) ?_
        obtain ⟨x47, x48, hc93, H⟩ := H
        refine L_val (v := .agg #[.int .i64 x47, .int .i64 x48]) (y_loadAgg Try.underlying70 rfl Try.type70 rfl (ev_tv rfl rfl) hc93) ?_
        obtain ⟨b49, hb94⟩ : ∃ b49 : Nat, b49 = World.heapSize w44 := ⟨_, rfl⟩
        obtain ⟨w50, hw95⟩ : ∃ w50 : World, w50 = World.alloc w44 (.cells #[.int .i64 0, .int .i64 0] 70) := ⟨_, rfl⟩
        replace H := H b49 w50 hb94 hw95
        refine L_val (v := .pointer (some ⟨b49, 0, none⟩)) (y_alloc Try.type70 rfl rfl hb94 hw95) ?_
        refine L_val (v := .int .i64 v42) (y_assign (ev_tv rfl rfl)) ?_
        obtain ⟨hc96, H⟩ := H
        obtain ⟨w51, hw98⟩ : ∃ w51 : World, w51 = putCells w50 ⟨b49, 0, none⟩ [.int .i64 x47, .int .i64 x48] 0 := ⟨_, rfl⟩
        replace H := H w51 hw98
        refine L_skip (y_storeAgg Try.type70 rfl (by intro v hv; simp only [List.mem_cons, List.not_mem_nil, or_false] at hv; rcases hv with rfl | rfl <;> rfl) (ev_tv rfl rfl) (ev_tv rfl rfl) hc96 hw98) ?_
        refine l_nil ?_
        refine then_norm ?_
        refine hK90 _ _ ?_
        clear hK90
        refine c_seq ?_
        intro K99 hK99
        refine D_start Try.mixed rfl [] ?_
        refine start_keep fun hS => ?_
        refine D_pure (i := 0) (v := .pointer (some ⟨b49, 0, none⟩)) rfl (by kernel_rfl) (W_none rfl) (fun _ => Try.fa70_0 (ev_tv rfl rfl)) hS ?_
        intro hS
        obtain ⟨x52, hc100, H⟩ := H
        refine D_read (i := 1) (v := .int .i64 x52) rfl (by kernel_rfl) (W_none rfl) (fun wx => World.cell? wx ⟨b49, 0, none⟩ = some (.int .i64 x52)) hc100 (fun _ hcx => y_load Try.underlying3 rfl (ev_tv rfl rfl) hcx) hS ?_
        intro hS
        refine D_pure (i := 2) (v := .bool (decide ((x52 : Int) < 0))) rfl (by kernel_rfl) (W_none rfl) (fun _ => y_lss (ev_tv rfl rfl) ev_c) hS ?_
        intro hS
        refine D_pure (i := 3) (v := .bool (decide ((x52 : Int) < 0))) rfl (by kernel_rfl) (W_none rfl) (fun _ => y_move (ev_tv rfl rfl)) hS ?_
        intro hS
        rcases (Decidable.em ((x52 : Int) < 0)) with hb101 | hb101
        · replace H := H.1 hb101
          have hq102 : Value.bool (decide ((x52 : Int) < 0)) = Value.bool true := congrArg Value.bool (decide_eq_true hb101)
          refine D_not (i := 4) rfl (by kernel_rfl) (W_no (dj := 22) (b' := true) rfl rfl rfl hq102 rfl) hS ?_
          intro hS
          refine D_not (i := 5) rfl (by kernel_rfl) (W_no (dj := 22) (b' := true) rfl rfl rfl hq102 rfl) hS ?_
          intro hS
          refine D_not (i := 6) rfl (by kernel_rfl) (W_no (dj := 22) (b' := true) rfl rfl rfl hq102 rfl) hS ?_
          intro hS
          refine D_not (i := 7) rfl (by kernel_rfl) (W_no (dj := 22) (b' := true) rfl rfl rfl hq102 rfl) hS ?_
          intro hS
          refine D_not (i := 8) rfl (by kernel_rfl) (W_no (dj := 22) (b' := true) rfl rfl rfl hq102 rfl) hS ?_
          intro hS
          refine D_not (i := 9) rfl (by kernel_rfl) (W_no (dj := 22) (b' := true) rfl rfl rfl hq102 rfl) hS ?_
          intro hS
          refine D_not (i := 10) rfl (by kernel_rfl) (W_no (dj := 22) (b' := true) rfl rfl rfl hq102 rfl) hS ?_
          intro hS
          refine D_not (i := 11) rfl (by kernel_rfl) (W_no (dj := 22) (b' := true) rfl rfl rfl hq102 rfl) hS ?_
          intro hS
          refine D_pure (i := 12) (v := .bool true) rfl (by kernel_rfl) (W_none rfl) (fun _ => y_pick_t (ev_tv rfl hq102) ev_c) hS ?_
          intro hS
          refine D_pure (i := 13) (v := .bool true) rfl (by kernel_rfl) (W_none rfl) (fun _ => y_move (ev_tv rfl rfl)) hS ?_
          intro hS
          refine D_not (i := 14) rfl (by kernel_rfl) (W_no (dj := 32) (b' := true) rfl rfl rfl rfl rfl) hS ?_
          intro hS
          refine D_not (i := 15) rfl (by kernel_rfl) (W_no (dj := 32) (b' := true) rfl rfl rfl rfl rfl) hS ?_
          intro hS
          refine D_not (i := 16) rfl (by kernel_rfl) (W_no (dj := 32) (b' := true) rfl rfl rfl rfl rfl) hS ?_
          intro hS
          refine D_not (i := 17) rfl (by kernel_rfl) (W_und (dj := 35) rfl rfl rfl rfl) hS ?_
          intro hS
          refine D_not (i := 18) rfl (by kernel_rfl) (W_und (dj := 35) rfl rfl rfl rfl) hS ?_
          intro hS
          refine D_not (i := 19) rfl (by kernel_rfl) (W_und (dj := 35) rfl rfl rfl rfl) hS ?_
          intro hS
          refine D_not (i := 20) rfl (by kernel_rfl) (W_und (dj := 35) rfl rfl rfl rfl) hS ?_
          intro hS
          refine D_not (i := 21) rfl (by kernel_rfl) (W_und (dj := 35) rfl rfl rfl rfl) hS ?_
          intro hS
          refine D_not (i := 22) rfl (by kernel_rfl) (W_und (dj := 35) rfl rfl rfl rfl) hS ?_
          intro hS
          refine D_not (i := 23) rfl (by kernel_rfl) (W_und (dj := 35) rfl rfl rfl rfl) hS ?_
          intro hS
          refine D_not (i := 24) rfl (by kernel_rfl) (W_und (dj := 35) rfl rfl rfl rfl) hS ?_
          intro hS
          refine D_not (i := 25) rfl (by kernel_rfl) (W_und (dj := 35) rfl rfl rfl rfl) hS ?_
          intro hS
          refine D_not (i := 26) rfl (by kernel_rfl) (W_no (dj := 32) (b' := true) rfl rfl rfl rfl rfl) hS ?_
          intro hS
          refine D_pure (i := 27) (v := .bool true) rfl (by kernel_rfl) (W_none rfl) (fun _ => y_pick_t (ev_tv rfl rfl) ev_c) hS ?_
          intro hS
          refine D_pure (i := 28) (v := .bool true) rfl (by kernel_rfl) (W_none rfl) (fun _ => y_move (ev_tv rfl rfl)) hS ?_
          intro hS
          refine D_not (i := 29) rfl (by kernel_rfl) (W_no (dj := 47) (b' := true) rfl rfl rfl rfl rfl) hS ?_
          intro hS
          refine D_not (i := 30) rfl (by kernel_rfl) (W_no (dj := 47) (b' := true) rfl rfl rfl rfl rfl) hS ?_
          intro hS
          refine D_not (i := 31) rfl (by kernel_rfl) (W_no (dj := 47) (b' := true) rfl rfl rfl rfl rfl) hS ?_
          intro hS
          refine D_pure (i := 32) (v := .bool true) rfl (by kernel_rfl) (W_none rfl) (fun _ => y_pick_t (ev_tv rfl rfl) ev_c) hS ?_
          intro hS
          refine D_pure (i := 33) (v := .bool true) rfl (by kernel_rfl) (W_none rfl) (fun _ => y_move (ev_tv rfl rfl)) hS ?_
          intro hS
          refine D_not (i := 34) rfl (by kernel_rfl) (W_no (dj := 52) (b' := true) rfl rfl rfl rfl rfl) hS ?_
          intro hS
          refine D_not (i := 35) rfl (by kernel_rfl) (W_no (dj := 52) (b' := true) rfl rfl rfl rfl rfl) hS ?_
          intro hS
          refine D_not (i := 36) rfl (by kernel_rfl) (W_no (dj := 52) (b' := true) rfl rfl rfl rfl rfl) hS ?_
          intro hS
          refine D_pure (i := 37) (v := .bool true) rfl (by kernel_rfl) (W_none rfl) (fun _ => y_pick_t (ev_tv rfl rfl) ev_c) hS ?_
          intro hS
          refine D_done (by kernel_rfl) ?_
          refine then_norm ?_
          refine hK99 _ _ ?_
          clear hK99
          refine cond_t (ev_tv rfl rfl) ?_
          refine c_seq ?_
          intro K103 hK103
          refine c_region ?_
          refine L_val (v := .int .i64 1) (y_assign ev_c) ?_
          refine l_nil ?_
          refine then_norm ?_
          refine hK103 _ _ ?_
          clear hK103
          refine c_ret ?_
          refine block_ret ?_
          refine then_ret ?_
          refine then_ret ?_
          refine block_ret ?_
          refine then_ret ?_
          exact body_1 rfl (ev_tv rfl rfl) H
        · replace H := H.2 hb101
          have hq102 : Value.bool (decide ((x52 : Int) < 0)) = Value.bool false := congrArg Value.bool (decide_eq_false hb101)
          refine D_pure (i := 4) (v := .pointer (some ⟨b49, 0, none⟩)) rfl (by kernel_rfl) (W_yes (dj := 22) rfl rfl rfl hq102) (fun _ => Try.fa70_0 (ev_tv rfl rfl)) hS ?_
          intro hS
          refine D_pure (i := 6) (v := .pointer a_d1) rfl (by kernel_rfl) (W_yes (dj := 22) rfl rfl rfl hq102) (fun _ => y_move (ev_tv rfl ((hag80 0 rfl).trans rfl))) hS ?_
          intro hS
          obtain ⟨b53, o54, rfl, H⟩ := H
          refine D_pure (i := 7) (v := .pointer (some ⟨b53, o54, none⟩)) rfl (by kernel_rfl) (W_yes (dj := 22) rfl rfl rfl hq102) (fun _ => y_nilCheck (ev_tv rfl rfl)) hS ?_
          intro hS
          refine D_pure (i := 8) (v := .pointer (some ⟨b53, o54 + 1, none⟩)) rfl (by kernel_rfl) (W_yes (dj := 22) rfl rfl rfl hq102) (fun _ => Try.fa51_1 (ev_tv rfl rfl)) hS ?_
          intro hS
          obtain ⟨x55, hc104, H⟩ := H
          refine D_read (i := 5) (v := .int .i64 x55) rfl (by kernel_rfl) (W_yes (dj := 22) rfl rfl rfl hq102) (fun wx => World.cell? wx ⟨b49, 0, none⟩ = some (.int .i64 x55)) hc104 (fun _ hcx => y_load Try.underlying3 rfl (ev_tv rfl rfl) hcx) hS ?_
          intro hS
          obtain ⟨x56, x56l, x56c, hc105, H⟩ := H
          refine D_read (i := 9) (v := .slice x56 x56l x56c) rfl (by kernel_rfl) (W_yes (dj := 22) rfl rfl rfl hq102) (fun wx => World.cell? wx ⟨b53, o54 + 1, none⟩ = some (.slice x56 x56l x56c)) hc105 (fun _ hcx => y_load Try.underlying49 rfl (ev_tv rfl rfl) hcx) hS ?_
          intro hS
          refine D_pure (i := 10) (v := .int .i64 ((x56l : Nat) : Int)) rfl (by kernel_rfl) (W_yes (dj := 22) rfl rfl rfl hq102) (fun _ => y_len Try.underlying49 rfl (map_ev1 (ev_tv rfl rfl))) hS ?_
          intro hS
          refine D_pure (i := 11) (v := .bool (decide ((((x56l : Nat) : Int) : Int) ≤ x55))) rfl (by kernel_rfl) (W_yes (dj := 22) rfl rfl rfl hq102) (fun _ => y_geq (ev_tv rfl rfl) (ev_tv rfl rfl)) hS ?_
          intro hS
          refine D_pure (i := 12) (v := .bool (decide ((((x56l : Nat) : Int) : Int) ≤ x55))) rfl (by kernel_rfl) (W_none rfl) (fun _ => y_pick_f (ev_tv rfl hq102) (ev_tv rfl rfl)) hS ?_
          intro hS
          refine D_pure (i := 13) (v := .bool (decide ((((x56l : Nat) : Int) : Int) ≤ x55))) rfl (by kernel_rfl) (W_none rfl) (fun _ => y_move (ev_tv rfl rfl)) hS ?_
          intro hS
          rcases (Decidable.em ((((x56l : Nat) : Int) : Int) ≤ x55)) with hb106 | hb106
          · replace H := H.1 hb106
            have hq107 : Value.bool (decide ((((x56l : Nat) : Int) : Int) ≤ x55)) = Value.bool true := congrArg Value.bool (decide_eq_true hb106)
            refine D_not (i := 14) rfl (by kernel_rfl) (W_no (dj := 32) (b' := true) rfl rfl rfl hq107 rfl) hS ?_
            intro hS
            refine D_not (i := 15) rfl (by kernel_rfl) (W_no (dj := 32) (b' := true) rfl rfl rfl hq107 rfl) hS ?_
            intro hS
            refine D_not (i := 16) rfl (by kernel_rfl) (W_no (dj := 32) (b' := true) rfl rfl rfl hq107 rfl) hS ?_
            intro hS
            refine D_not (i := 17) rfl (by kernel_rfl) (W_und (dj := 35) rfl rfl rfl rfl) hS ?_
            intro hS
            refine D_not (i := 18) rfl (by kernel_rfl) (W_und (dj := 35) rfl rfl rfl rfl) hS ?_
            intro hS
            refine D_not (i := 19) rfl (by kernel_rfl) (W_und (dj := 35) rfl rfl rfl rfl) hS ?_
            intro hS
            refine D_not (i := 20) rfl (by kernel_rfl) (W_und (dj := 35) rfl rfl rfl rfl) hS ?_
            intro hS
            refine D_not (i := 21) rfl (by kernel_rfl) (W_und (dj := 35) rfl rfl rfl rfl) hS ?_
            intro hS
            refine D_not (i := 22) rfl (by kernel_rfl) (W_und (dj := 35) rfl rfl rfl rfl) hS ?_
            intro hS
            refine D_not (i := 23) rfl (by kernel_rfl) (W_und (dj := 35) rfl rfl rfl rfl) hS ?_
            intro hS
            refine D_not (i := 24) rfl (by kernel_rfl) (W_und (dj := 35) rfl rfl rfl rfl) hS ?_
            intro hS
            refine D_not (i := 25) rfl (by kernel_rfl) (W_und (dj := 35) rfl rfl rfl rfl) hS ?_
            intro hS
            refine D_not (i := 26) rfl (by kernel_rfl) (W_no (dj := 32) (b' := true) rfl rfl rfl hq107 rfl) hS ?_
            intro hS
            refine D_pure (i := 27) (v := .bool true) rfl (by kernel_rfl) (W_none rfl) (fun _ => y_pick_t (ev_tv rfl hq107) ev_c) hS ?_
            intro hS
            refine D_pure (i := 28) (v := .bool true) rfl (by kernel_rfl) (W_none rfl) (fun _ => y_move (ev_tv rfl rfl)) hS ?_
            intro hS
            refine D_not (i := 29) rfl (by kernel_rfl) (W_no (dj := 47) (b' := true) rfl rfl rfl rfl rfl) hS ?_
            intro hS
            refine D_not (i := 30) rfl (by kernel_rfl) (W_no (dj := 47) (b' := true) rfl rfl rfl rfl rfl) hS ?_
            intro hS
            refine D_not (i := 31) rfl (by kernel_rfl) (W_no (dj := 47) (b' := true) rfl rfl rfl rfl rfl) hS ?_
            intro hS
            refine D_pure (i := 32) (v := .bool true) rfl (by kernel_rfl) (W_none rfl) (fun _ => y_pick_t (ev_tv rfl rfl) ev_c) hS ?_
            intro hS
            refine D_pure (i := 33) (v := .bool true) rfl (by kernel_rfl) (W_none rfl) (fun _ => y_move (ev_tv rfl rfl)) hS ?_
            intro hS
            refine D_not (i := 34) rfl (by kernel_rfl) (W_no (dj := 52) (b' := true) rfl rfl rfl rfl rfl) hS ?_
            intro hS
            refine D_not (i := 35) rfl (by kernel_rfl) (W_no (dj := 52) (b' := true) rfl rfl rfl rfl rfl) hS ?_
            intro hS
            refine D_not (i := 36) rfl (by kernel_rfl) (W_no (dj := 52) (b' := true) rfl rfl rfl rfl rfl) hS ?_
            intro hS
            refine D_pure (i := 37) (v := .bool true) rfl (by kernel_rfl) (W_none rfl) (fun _ => y_pick_t (ev_tv rfl rfl) ev_c) hS ?_
            intro hS
            refine D_done (by kernel_rfl) ?_
            refine then_norm ?_
            refine hK99 _ _ ?_
            clear hK99
            refine cond_t (ev_tv rfl rfl) ?_
            refine c_seq ?_
            intro K108 hK108
            refine c_region ?_
            refine L_val (v := .int .i64 1) (y_assign ev_c) ?_
            refine l_nil ?_
            refine then_norm ?_
            refine hK108 _ _ ?_
            clear hK108
            refine c_ret ?_
            refine block_ret ?_
            refine then_ret ?_
            refine then_ret ?_
            refine block_ret ?_
            refine then_ret ?_
            exact body_1 rfl (ev_tv rfl rfl) H
          · replace H := H.2 hb106
            have hq107 : Value.bool (decide ((((x56l : Nat) : Int) : Int) ≤ x55)) = Value.bool false := congrArg Value.bool (decide_eq_false hb106)
            refine D_pure (i := 14) (v := .int .i64 v42) rfl (by kernel_rfl) (W_yes (dj := 32) rfl rfl rfl hq107) (fun _ => y_move (ev_tv rfl rfl)) hS ?_
            intro hS
            refine D_pure (i := 15) (v := .bool (decide ((0 : Int) < v42))) rfl (by kernel_rfl) (W_yes (dj := 32) rfl rfl rfl hq107) (fun _ => y_gtr (ev_tv rfl rfl) ev_c) hS ?_
            intro hS
            refine D_pure (i := 16) (v := .bool (decide ((0 : Int) < v42))) rfl (by kernel_rfl) (W_yes (dj := 32) rfl rfl rfl hq107) (fun _ => y_move (ev_tv rfl rfl)) hS ?_
            intro hS
            rcases (Decidable.em ((0 : Int) < v42)) with hb109 | hb109
            · replace H := H.1 hb109
              have hq110 : Value.bool (decide ((0 : Int) < v42)) = Value.bool true := congrArg Value.bool (decide_eq_true hb109)
              refine D_pure (i := 17) (v := .pointer (some ⟨b49, 0, none⟩)) rfl (by kernel_rfl) (W_yes (dj := 35) rfl rfl rfl hq110) (fun _ => Try.fa70_0 (ev_tv rfl rfl)) hS ?_
              intro hS
              refine D_pure (i := 19) (v := .slice (some ⟨b45, o46, none⟩) a_l2l a_l2c) rfl (by kernel_rfl) (W_yes (dj := 35) rfl rfl rfl hq110) (fun _ => y_move (ev_tv rfl ((hag80 1 rfl).trans rfl))) hS ?_
              intro hS
              refine D_pure (i := 20) (v := .int .i64 v42) rfl (by kernel_rfl) (W_yes (dj := 35) rfl rfl rfl hq110) (fun _ => y_move (ev_tv rfl rfl)) hS ?_
              intro hS
              obtain ⟨r57, hr111⟩ : ∃ r57 : Int, r57 = IntKind.wrap .i64 (v42 - 1) := ⟨_, rfl⟩
              replace H := H r57 hr111
              refine D_pure (i := 21) (v := .int .i64 r57) rfl (by kernel_rfl) (W_yes (dj := 35) rfl rfl rfl hq110) (fun _ => y_sub (ev_tv rfl rfl) ev_c hr111) hS ?_
              intro hS
              obtain ⟨hi112, hi113, H⟩ := H
              refine D_pure (i := 22) (v := .pointer (some ⟨b45, o46 + (r57 : Int).toNat * 2, none⟩)) rfl (by kernel_rfl) (W_yes (dj := 35) rfl rfl rfl hq110) (fun _ => y_ix Try.underlying68 Try.type70 rfl (ev_tv rfl rfl) (ev_tv rfl rfl) hi112 hi113) hS ?_
              intro hS
              refine D_pure (i := 23) (v := .pointer (some ⟨b45, o46 + (r57 : Int).toNat * 2, none⟩)) rfl (by kernel_rfl) (W_yes (dj := 35) rfl rfl rfl hq110) (fun _ => Try.fa70_0 (ev_tv rfl rfl)) hS ?_
              intro hS
              obtain ⟨x58, hc114, H⟩ := H
              refine D_read (i := 18) (v := .int .i64 x58) rfl (by kernel_rfl) (W_yes (dj := 35) rfl rfl rfl hq110) (fun wx => World.cell? wx ⟨b49, 0, none⟩ = some (.int .i64 x58)) hc114 (fun _ hcx => y_load Try.underlying3 rfl (ev_tv rfl rfl) hcx) hS ?_
              intro hS
              obtain ⟨x59, hc115, H⟩ := H
              refine D_read (i := 24) (v := .int .i64 x59) rfl (by kernel_rfl) (W_yes (dj := 35) rfl rfl rfl hq110) (fun wx => World.cell? wx ⟨b45, o46 + (r57 : Int).toNat * 2, none⟩ = some (.int .i64 x59)) hc115 (fun _ hcx => y_load Try.underlying3 rfl (ev_tv rfl rfl) hcx) hS ?_
              intro hS
              refine D_pure (i := 25) (v := .bool (decide ((x58 : Int) ≤ x59))) rfl (by kernel_rfl) (W_yes (dj := 35) rfl rfl rfl hq110) (fun _ => y_leq (ev_tv rfl rfl) (ev_tv rfl rfl)) hS ?_
              intro hS
              refine D_pure (i := 26) (v := .bool (decide ((x58 : Int) ≤ x59))) rfl (by kernel_rfl) (W_yes (dj := 32) rfl rfl rfl hq107) (fun _ => y_pick_t (ev_tv rfl hq110) (ev_tv rfl rfl)) hS ?_
              intro hS
              refine D_pure (i := 27) (v := .bool (decide ((x58 : Int) ≤ x59))) rfl (by kernel_rfl) (W_none rfl) (fun _ => y_pick_f (ev_tv rfl hq107) (ev_tv rfl rfl)) hS ?_
              intro hS
              refine D_pure (i := 28) (v := .bool (decide ((x58 : Int) ≤ x59))) rfl (by kernel_rfl) (W_none rfl) (fun _ => y_move (ev_tv rfl rfl)) hS ?_
              intro hS
              rcases (Decidable.em ((x58 : Int) ≤ x59)) with hb116 | hb116
              · replace H := H.1 hb116
                have hq117 : Value.bool (decide ((x58 : Int) ≤ x59)) = Value.bool true := congrArg Value.bool (decide_eq_true hb116)
                refine D_not (i := 29) rfl (by kernel_rfl) (W_no (dj := 47) (b' := true) rfl rfl rfl hq117 rfl) hS ?_
                intro hS
                refine D_not (i := 30) rfl (by kernel_rfl) (W_no (dj := 47) (b' := true) rfl rfl rfl hq117 rfl) hS ?_
                intro hS
                refine D_not (i := 31) rfl (by kernel_rfl) (W_no (dj := 47) (b' := true) rfl rfl rfl hq117 rfl) hS ?_
                intro hS
                refine D_pure (i := 32) (v := .bool true) rfl (by kernel_rfl) (W_none rfl) (fun _ => y_pick_t (ev_tv rfl hq117) ev_c) hS ?_
                intro hS
                refine D_pure (i := 33) (v := .bool true) rfl (by kernel_rfl) (W_none rfl) (fun _ => y_move (ev_tv rfl rfl)) hS ?_
                intro hS
                refine D_not (i := 34) rfl (by kernel_rfl) (W_no (dj := 52) (b' := true) rfl rfl rfl rfl rfl) hS ?_
                intro hS
                refine D_not (i := 35) rfl (by kernel_rfl) (W_no (dj := 52) (b' := true) rfl rfl rfl rfl rfl) hS ?_
                intro hS
                refine D_not (i := 36) rfl (by kernel_rfl) (W_no (dj := 52) (b' := true) rfl rfl rfl rfl rfl) hS ?_
                intro hS
                refine D_pure (i := 37) (v := .bool true) rfl (by kernel_rfl) (W_none rfl) (fun _ => y_pick_t (ev_tv rfl rfl) ev_c) hS ?_
                intro hS
                refine D_done (by kernel_rfl) ?_
                refine then_norm ?_
                refine hK99 _ _ ?_
                clear hK99
                refine cond_t (ev_tv rfl rfl) ?_
                refine c_seq ?_
                intro K118 hK118
                refine c_region ?_
                refine L_val (v := .int .i64 1) (y_assign ev_c) ?_
                refine l_nil ?_
                refine then_norm ?_
                refine hK118 _ _ ?_
                clear hK118
                refine c_ret ?_
                refine block_ret ?_
                refine then_ret ?_
                refine then_ret ?_
                refine block_ret ?_
                refine then_ret ?_
                exact body_1 rfl (ev_tv rfl rfl) H
              · replace H := H.2 hb116
                have hq117 : Value.bool (decide ((x58 : Int) ≤ x59)) = Value.bool false := congrArg Value.bool (decide_eq_false hb116)
                refine D_pure (i := 29) (v := .pointer (some ⟨b49, 0 + 1, none⟩)) rfl (by kernel_rfl) (W_yes (dj := 47) rfl rfl rfl hq117) (fun _ => Try.fa70_1 (ev_tv rfl rfl)) hS ?_
                intro hS
                obtain ⟨x60, hc119, H⟩ := H
                refine D_read (i := 30) (v := .int .i64 x60) rfl (by kernel_rfl) (W_yes (dj := 47) rfl rfl rfl hq117) (fun wx => World.cell? wx ⟨b49, 0 + 1, none⟩ = some (.int .i64 x60)) hc119 (fun _ hcx => y_load Try.underlying3 rfl (ev_tv rfl rfl) hcx) hS ?_
                intro hS
                refine D_pure (i := 31) (v := .bool (decide ((x60 : Int) < 1))) rfl (by kernel_rfl) (W_yes (dj := 47) rfl rfl rfl hq117) (fun _ => y_lss (ev_tv rfl rfl) ev_c) hS ?_
                intro hS
                refine D_pure (i := 32) (v := .bool (decide ((x60 : Int) < 1))) rfl (by kernel_rfl) (W_none rfl) (fun _ => y_pick_f (ev_tv rfl hq117) (ev_tv rfl rfl)) hS ?_
                intro hS
                refine D_pure (i := 33) (v := .bool (decide ((x60 : Int) < 1))) rfl (by kernel_rfl) (W_none rfl) (fun _ => y_move (ev_tv rfl rfl)) hS ?_
                intro hS
                rcases (Decidable.em ((x60 : Int) < 1)) with hb120 | hb120
                · replace H := H.1 hb120
                  have hq121 : Value.bool (decide ((x60 : Int) < 1)) = Value.bool true := congrArg Value.bool (decide_eq_true hb120)
                  refine D_not (i := 34) rfl (by kernel_rfl) (W_no (dj := 52) (b' := true) rfl rfl rfl hq121 rfl) hS ?_
                  intro hS
                  refine D_not (i := 35) rfl (by kernel_rfl) (W_no (dj := 52) (b' := true) rfl rfl rfl hq121 rfl) hS ?_
                  intro hS
                  refine D_not (i := 36) rfl (by kernel_rfl) (W_no (dj := 52) (b' := true) rfl rfl rfl hq121 rfl) hS ?_
                  intro hS
                  refine D_pure (i := 37) (v := .bool true) rfl (by kernel_rfl) (W_none rfl) (fun _ => y_pick_t (ev_tv rfl hq121) ev_c) hS ?_
                  intro hS
                  refine D_done (by kernel_rfl) ?_
                  refine then_norm ?_
                  refine hK99 _ _ ?_
                  clear hK99
                  refine cond_t (ev_tv rfl rfl) ?_
                  refine c_seq ?_
                  intro K122 hK122
                  refine c_region ?_
                  refine L_val (v := .int .i64 1) (y_assign ev_c) ?_
                  refine l_nil ?_
                  refine then_norm ?_
                  refine hK122 _ _ ?_
                  clear hK122
                  refine c_ret ?_
                  refine block_ret ?_
                  refine then_ret ?_
                  refine then_ret ?_
                  refine block_ret ?_
                  refine then_ret ?_
                  exact body_1 rfl (ev_tv rfl rfl) H
                · replace H := H.2 hb120
                  have hq121 : Value.bool (decide ((x60 : Int) < 1)) = Value.bool false := congrArg Value.bool (decide_eq_false hb120)
                  refine D_pure (i := 34) (v := .pointer (some ⟨b49, 0 + 1, none⟩)) rfl (by kernel_rfl) (W_yes (dj := 52) rfl rfl rfl hq121) (fun _ => Try.fa70_1 (ev_tv rfl rfl)) hS ?_
                  intro hS
                  obtain ⟨x61, hc123, H⟩ := H
                  refine D_read (i := 35) (v := .int .i64 x61) rfl (by kernel_rfl) (W_yes (dj := 52) rfl rfl rfl hq121) (fun wx => World.cell? wx ⟨b49, 0 + 1, none⟩ = some (.int .i64 x61)) hc123 (fun _ hcx => y_load Try.underlying3 rfl (ev_tv rfl rfl) hcx) hS ?_
                  intro hS
                  refine D_pure (i := 36) (v := .bool (decide ((512 : Int) < x61))) rfl (by kernel_rfl) (W_yes (dj := 52) rfl rfl rfl hq121) (fun _ => y_gtr (ev_tv rfl rfl) ev_c) hS ?_
                  intro hS
                  refine D_pure (i := 37) (v := .bool (decide ((512 : Int) < x61))) rfl (by kernel_rfl) (W_none rfl) (fun _ => y_pick_f (ev_tv rfl hq121) (ev_tv rfl rfl)) hS ?_
                  intro hS
                  refine D_done (by kernel_rfl) ?_
                  refine then_norm ?_
                  refine hK99 _ _ ?_
                  clear hK99
                  rcases (Decidable.em ((512 : Int) < x61)) with hb124 | hb124
                  · replace H := H.1 hb124
                    have hq125 : Value.bool (decide ((512 : Int) < x61)) = Value.bool true := congrArg Value.bool (decide_eq_true hb124)
                    refine cond_t (ev_tv rfl hq125) ?_
                    refine c_seq ?_
                    intro K126 hK126
                    refine c_region ?_
                    refine L_val (v := .int .i64 1) (y_assign ev_c) ?_
                    refine l_nil ?_
                    refine then_norm ?_
                    refine hK126 _ _ ?_
                    clear hK126
                    refine c_ret ?_
                    refine block_ret ?_
                    refine then_ret ?_
                    refine then_ret ?_
                    refine block_ret ?_
                    refine then_ret ?_
                    exact body_1 rfl (ev_tv rfl rfl) H
                  · replace H := H.2 hb124
                    have hq125 : Value.bool (decide ((512 : Int) < x61)) = Value.bool false := congrArg Value.bool (decide_eq_false hb124)
                    refine cond_f (ev_tv rfl hq125) ?_
                    refine c_skip ?_
                    refine block_norm ?_
                    refine then_norm ?_
                    refine hK89 _ _ ?_
                    clear hK89
                    refine c_region ?_
                    obtain ⟨r62, hr127⟩ : ∃ r62 : Int, r62 = IntKind.wrap .i64 (v42 + 1) := ⟨_, rfl⟩
                    replace H := H r62 hr127
                    refine L_val (v := .int .i64 r62) (y_add (ev_tv rfl hs84) ev_c hr127) ?_
                    refine L_val (v := .int .i64 r62) (y_move (ev_tv rfl rfl)) ?_
                    refine l_nil ?_
                    refine then_norm ?_
                    obtain ⟨m63, hm128, H⟩ := H
                    exact ⟨_, rfl, (by repeat (first | exact agree_refl | exact hag80 | refine agree_upd rfl ?_ | refine agree_via hag80 rfl ?_)), m63, hm128, _, rfl, H⟩
            · replace H := H.2 hb109
              have hq110 : Value.bool (decide ((0 : Int) < v42)) = Value.bool false := congrArg Value.bool (decide_eq_false hb109)
              refine D_not (i := 17) rfl (by kernel_rfl) (W_no (dj := 35) (b' := false) rfl rfl rfl hq110 rfl) hS ?_
              intro hS
              refine D_not (i := 18) rfl (by kernel_rfl) (W_no (dj := 35) (b' := false) rfl rfl rfl hq110 rfl) hS ?_
              intro hS
              refine D_not (i := 19) rfl (by kernel_rfl) (W_no (dj := 35) (b' := false) rfl rfl rfl hq110 rfl) hS ?_
              intro hS
              refine D_not (i := 20) rfl (by kernel_rfl) (W_no (dj := 35) (b' := false) rfl rfl rfl hq110 rfl) hS ?_
              intro hS
              refine D_not (i := 21) rfl (by kernel_rfl) (W_no (dj := 35) (b' := false) rfl rfl rfl hq110 rfl) hS ?_
              intro hS
              refine D_not (i := 22) rfl (by kernel_rfl) (W_no (dj := 35) (b' := false) rfl rfl rfl hq110 rfl) hS ?_
              intro hS
              refine D_not (i := 23) rfl (by kernel_rfl) (W_no (dj := 35) (b' := false) rfl rfl rfl hq110 rfl) hS ?_
              intro hS
              refine D_not (i := 24) rfl (by kernel_rfl) (W_no (dj := 35) (b' := false) rfl rfl rfl hq110 rfl) hS ?_
              intro hS
              refine D_not (i := 25) rfl (by kernel_rfl) (W_no (dj := 35) (b' := false) rfl rfl rfl hq110 rfl) hS ?_
              intro hS
              refine D_pure (i := 26) (v := .bool false) rfl (by kernel_rfl) (W_yes (dj := 32) rfl rfl rfl hq107) (fun _ => y_pick_f (ev_tv rfl hq110) ev_c) hS ?_
              intro hS
              refine D_pure (i := 27) (v := .bool false) rfl (by kernel_rfl) (W_none rfl) (fun _ => y_pick_f (ev_tv rfl hq107) (ev_tv rfl rfl)) hS ?_
              intro hS
              refine D_pure (i := 28) (v := .bool false) rfl (by kernel_rfl) (W_none rfl) (fun _ => y_move (ev_tv rfl rfl)) hS ?_
              intro hS
              refine D_pure (i := 29) (v := .pointer (some ⟨b49, 0 + 1, none⟩)) rfl (by kernel_rfl) (W_yes (dj := 47) rfl rfl rfl rfl) (fun _ => Try.fa70_1 (ev_tv rfl rfl)) hS ?_
              intro hS
              obtain ⟨x64, hc129, H⟩ := H
              refine D_read (i := 30) (v := .int .i64 x64) rfl (by kernel_rfl) (W_yes (dj := 47) rfl rfl rfl rfl) (fun wx => World.cell? wx ⟨b49, 0 + 1, none⟩ = some (.int .i64 x64)) hc129 (fun _ hcx => y_load Try.underlying3 rfl (ev_tv rfl rfl) hcx) hS ?_
              intro hS
              refine D_pure (i := 31) (v := .bool (decide ((x64 : Int) < 1))) rfl (by kernel_rfl) (W_yes (dj := 47) rfl rfl rfl rfl) (fun _ => y_lss (ev_tv rfl rfl) ev_c) hS ?_
              intro hS
              refine D_pure (i := 32) (v := .bool (decide ((x64 : Int) < 1))) rfl (by kernel_rfl) (W_none rfl) (fun _ => y_pick_f (ev_tv rfl rfl) (ev_tv rfl rfl)) hS ?_
              intro hS
              refine D_pure (i := 33) (v := .bool (decide ((x64 : Int) < 1))) rfl (by kernel_rfl) (W_none rfl) (fun _ => y_move (ev_tv rfl rfl)) hS ?_
              intro hS
              rcases (Decidable.em ((x64 : Int) < 1)) with hb130 | hb130
              · replace H := H.1 hb130
                have hq131 : Value.bool (decide ((x64 : Int) < 1)) = Value.bool true := congrArg Value.bool (decide_eq_true hb130)
                refine D_not (i := 34) rfl (by kernel_rfl) (W_no (dj := 52) (b' := true) rfl rfl rfl hq131 rfl) hS ?_
                intro hS
                refine D_not (i := 35) rfl (by kernel_rfl) (W_no (dj := 52) (b' := true) rfl rfl rfl hq131 rfl) hS ?_
                intro hS
                refine D_not (i := 36) rfl (by kernel_rfl) (W_no (dj := 52) (b' := true) rfl rfl rfl hq131 rfl) hS ?_
                intro hS
                refine D_pure (i := 37) (v := .bool true) rfl (by kernel_rfl) (W_none rfl) (fun _ => y_pick_t (ev_tv rfl hq131) ev_c) hS ?_
                intro hS
                refine D_done (by kernel_rfl) ?_
                refine then_norm ?_
                refine hK99 _ _ ?_
                clear hK99
                refine cond_t (ev_tv rfl rfl) ?_
                refine c_seq ?_
                intro K132 hK132
                refine c_region ?_
                refine L_val (v := .int .i64 1) (y_assign ev_c) ?_
                refine l_nil ?_
                refine then_norm ?_
                refine hK132 _ _ ?_
                clear hK132
                refine c_ret ?_
                refine block_ret ?_
                refine then_ret ?_
                refine then_ret ?_
                refine block_ret ?_
                refine then_ret ?_
                exact body_1 rfl (ev_tv rfl rfl) H
              · replace H := H.2 hb130
                have hq131 : Value.bool (decide ((x64 : Int) < 1)) = Value.bool false := congrArg Value.bool (decide_eq_false hb130)
                refine D_pure (i := 34) (v := .pointer (some ⟨b49, 0 + 1, none⟩)) rfl (by kernel_rfl) (W_yes (dj := 52) rfl rfl rfl hq131) (fun _ => Try.fa70_1 (ev_tv rfl rfl)) hS ?_
                intro hS
                obtain ⟨x65, hc133, H⟩ := H
                refine D_read (i := 35) (v := .int .i64 x65) rfl (by kernel_rfl) (W_yes (dj := 52) rfl rfl rfl hq131) (fun wx => World.cell? wx ⟨b49, 0 + 1, none⟩ = some (.int .i64 x65)) hc133 (fun _ hcx => y_load Try.underlying3 rfl (ev_tv rfl rfl) hcx) hS ?_
                intro hS
                refine D_pure (i := 36) (v := .bool (decide ((512 : Int) < x65))) rfl (by kernel_rfl) (W_yes (dj := 52) rfl rfl rfl hq131) (fun _ => y_gtr (ev_tv rfl rfl) ev_c) hS ?_
                intro hS
                refine D_pure (i := 37) (v := .bool (decide ((512 : Int) < x65))) rfl (by kernel_rfl) (W_none rfl) (fun _ => y_pick_f (ev_tv rfl hq131) (ev_tv rfl rfl)) hS ?_
                intro hS
                refine D_done (by kernel_rfl) ?_
                refine then_norm ?_
                refine hK99 _ _ ?_
                clear hK99
                rcases (Decidable.em ((512 : Int) < x65)) with hb134 | hb134
                · replace H := H.1 hb134
                  have hq135 : Value.bool (decide ((512 : Int) < x65)) = Value.bool true := congrArg Value.bool (decide_eq_true hb134)
                  refine cond_t (ev_tv rfl hq135) ?_
                  refine c_seq ?_
                  intro K136 hK136
                  refine c_region ?_
                  refine L_val (v := .int .i64 1) (y_assign ev_c) ?_
                  refine l_nil ?_
                  refine then_norm ?_
                  refine hK136 _ _ ?_
                  clear hK136
                  refine c_ret ?_
                  refine block_ret ?_
                  refine then_ret ?_
                  refine then_ret ?_
                  refine block_ret ?_
                  refine then_ret ?_
                  exact body_1 rfl (ev_tv rfl rfl) H
                · replace H := H.2 hb134
                  have hq135 : Value.bool (decide ((512 : Int) < x65)) = Value.bool false := congrArg Value.bool (decide_eq_false hb134)
                  refine cond_f (ev_tv rfl hq135) ?_
                  refine c_skip ?_
                  refine block_norm ?_
                  refine then_norm ?_
                  refine hK89 _ _ ?_
                  clear hK89
                  refine c_region ?_
                  obtain ⟨r66, hr137⟩ : ∃ r66 : Int, r66 = IntKind.wrap .i64 (v42 + 1) := ⟨_, rfl⟩
                  replace H := H r66 hr137
                  refine L_val (v := .int .i64 r66) (y_add (ev_tv rfl hs84) ev_c hr137) ?_
                  refine L_val (v := .int .i64 r66) (y_move (ev_tv rfl rfl)) ?_
                  refine l_nil ?_
                  refine then_norm ?_
                  obtain ⟨m67, hm138, H⟩ := H
                  exact ⟨_, rfl, (by repeat (first | exact agree_refl | exact hag80 | refine agree_upd rfl ?_ | refine agree_via hag80 rfl ?_)), m67, hm138, _, rfl, H⟩
      · replace H := H.2 hb87
        have hq88 : Value.bool (decide ((v42 : Int) < ((a_l2l : Nat) : Int))) = Value.bool false := congrArg Value.bool (decide_eq_false hb87)
        refine cond_f (ev_tv rfl hq88) ?_
        refine c_exit ?_
        refine then_exit ?_
        refine then_exit ?_
        refine block_hit ?_
        refine then_norm ?_
        exact hK12 _ _ (by repeat (first | exact agree_refl | exact hag80 | refine agree_upd rfl ?_ | refine agree_via hag80 rfl ?_)) H
    · clear H
      intro f9 w3 hag10 HJ11
      have H := hJ8  w3 HJ11
      clear hJ8
      obtain ⟨J13, hJ14, H⟩ := H
      refine c_seqJ [(8, 9), (58, 82)] (fun ff ww => J13  ww) ?_ ?_
      · clear hJ14
        intro K18 hK18
        refine c_seq ?_
        intro K28 hK28
        refine c_region ?_
        refine L_val (v := .slice a_l2 a_l2l a_l2c) (y_move (ev_tv rfl ((hag10 1 rfl).trans rfl))) ?_
        refine L_val (v := .int .i64 ((a_l2l : Nat) : Int)) (y_len Try.underlying68 rfl (map_ev1 (ev_tv rfl rfl))) ?_
        refine L_val (v := .int .i64 0) (y_move ev_c) ?_
        refine l_nil ?_
        refine then_norm ?_
        refine hK28 _ _ ?_
        clear hK28
        refine c_block ?_
        obtain ⟨I29, ⟨m33, HI34⟩, H⟩ := H
        refine loop_fr ([(8, 9), (60, 82)]) (fun m ff ww => ∃ (v11 : Int), ff 60 = (.int .i64 v11 : Value) ∧ I29 m v11 ww) m33 ⟨0, rfl, HI34⟩ ?_
        rintro m12 f30 w13 hag31 ⟨v11, hs35, HI32⟩
        replace H := H m12 v11 w13 HI32
        refine c_seq ?_
        intro K36 hK36
        refine c_region ?_
        refine L_val (v := .bool (decide ((v11 : Int) < ((a_l2l : Nat) : Int)))) (y_lss (ev_tv rfl hs35) (ev_tv rfl ((hag31 59 rfl).trans rfl))) ?_
        refine l_nil ?_
        refine then_norm ?_
        refine hK36 _ _ ?_
        clear hK36
        refine c_seq ?_
        intro K37 hK37
        rcases (Decidable.em ((v11 : Int) < ((a_l2l : Nat) : Int))) with hb38 | hb38
        · replace H := H.1 hb38
          have hq39 : Value.bool (decide ((v11 : Int) < ((a_l2l : Nat) : Int))) = Value.bool true := congrArg Value.bool (decide_eq_true hb38)
          refine cond_t (ev_tv rfl hq39) ?_
          refine c_skip ?_
          refine then_norm ?_
          refine hK37 _ _ ?_
          clear hK37
          refine c_seq ?_
          intro K40 hK40
          refine c_block ?_
          refine c_seq ?_
          intro K41 hK41
          refine c_region ?_
          obtain ⟨b14, o15, rfl, H⟩ := H
          obtain ⟨hi42, hi43, H⟩ := H
          refine L_val (v := .pointer (some ⟨b14, o15 + (v11 : Int).toNat * 2, none⟩)) (y_ix Try.underlying68 Try.type70 rfl (ev_tv rfl ((hag31 58 rfl).trans rfl)) (ev_tv rfl hs35) hi42 hi43) ?_
          obtain ⟨x16, x17, hc44, H⟩ := H
          refine L_val (v := .agg #[.int .i64 x16, .int .i64 x17]) (y_loadAgg Try.underlying70 rfl Try.type70 rfl (ev_tv rfl rfl) hc44) ?_
          obtain ⟨b18, hb45⟩ : ∃ b18 : Nat, b18 = World.heapSize w13 := ⟨_, rfl⟩
          obtain ⟨w19, hw46⟩ : ∃ w19 : World, w19 = World.alloc w13 (.cells #[.int .i64 0, .int .i64 0] 70) := ⟨_, rfl⟩
          replace H := H b18 w19 hb45 hw46
          refine L_val (v := .pointer (some ⟨b18, 0, none⟩)) (y_alloc Try.type70 rfl rfl hb45 hw46) ?_
          obtain ⟨hc47, H⟩ := H
          obtain ⟨w20, hw49⟩ : ∃ w20 : World, w20 = putCells w19 ⟨b18, 0, none⟩ [.int .i64 x16, .int .i64 x17] 0 := ⟨_, rfl⟩
          replace H := H w20 hw49
          refine L_skip (y_storeAgg Try.type70 rfl (by intro v hv; simp only [List.mem_cons, List.not_mem_nil, or_false] at hv; rcases hv with rfl | rfl <;> rfl) (ev_tv rfl rfl) (ev_tv rfl rfl) hc47 hw49) ?_
          refine l_nil ?_
          refine then_norm ?_
          refine hK41 _ _ ?_
          clear hK41
          refine c_seq ?_
          intro K50 hK50
          refine D_start Try.mixed rfl [8, 9] ?_
          refine start_keep fun hS => ?_
          refine D_pure (i := 0) (v := .pointer a_d1) rfl (by kernel_rfl) (W_none rfl) (fun _ => y_move (ev_tv rfl ((hag31 0 rfl).trans ((hag10 0 rfl).trans rfl)))) hS ?_
          intro hS
          obtain ⟨b21, o22, rfl, H⟩ := H
          refine D_pure (i := 1) (v := .pointer (some ⟨b21, o22, none⟩)) rfl (by kernel_rfl) (W_none rfl) (fun _ => y_nilCheck (ev_tv rfl rfl)) hS ?_
          intro hS
          refine D_pure (i := 2) (v := .pointer (some ⟨b21, o22 + 1, none⟩)) rfl (by kernel_rfl) (W_none rfl) (fun _ => Try.fa51_1 (ev_tv rfl rfl)) hS ?_
          intro hS
          refine D_pure (i := 4) (v := .pointer (some ⟨b18, 0, none⟩)) rfl (by kernel_rfl) (W_none rfl) (fun _ => Try.fa70_0 (ev_tv rfl rfl)) hS ?_
          intro hS
          obtain ⟨x23, x23l, x23c, hc51, H⟩ := H
          refine D_read (i := 3) (v := .slice x23 x23l x23c) rfl (by kernel_rfl) (W_none rfl) (fun wx => World.cell? wx ⟨b21, o22 + 1, none⟩ = some (.slice x23 x23l x23c)) hc51 (fun _ hcx => y_load Try.underlying49 rfl (ev_tv rfl rfl) hcx) hS ?_
          intro hS
          obtain ⟨x24, hc52, H⟩ := H
          refine D_read (i := 5) (v := .int .i64 x24) rfl (by kernel_rfl) (W_none rfl) (fun wx => World.cell? wx ⟨b18, 0, none⟩ = some (.int .i64 x24)) hc52 (fun _ hcx => y_load Try.underlying3 rfl (ev_tv rfl rfl) hcx) hS ?_
          intro hS
          obtain ⟨b25, o26, rfl, H⟩ := H
          obtain ⟨hi53, hi54, H⟩ := H
          refine D_pure (i := 6) (v := .pointer (some ⟨b25, o26 + (x24 : Int).toNat * 2, none⟩)) rfl (by kernel_rfl) (W_none rfl) (fun _ => y_ix Try.underlying49 Try.type66 rfl (ev_tv rfl rfl) (ev_tv rfl rfl) hi53 hi54) hS ?_
          intro hS
          obtain ⟨x27, x28, x28l, x28c, hc55, H⟩ := H
          refine D_read (i := 7) (v := .agg #[.int .i64 x27, .slice x28 x28l x28c]) rfl (by kernel_rfl) (W_none rfl) (fun wx => CellsAt wx ⟨b25, o26 + (x24 : Int).toNat * 2, none⟩ [.int .i64 x27, .slice x28 x28l x28c]) hc55 (fun _ hcx => y_loadAgg Try.underlying66 rfl Try.type66 rfl (ev_tv rfl rfl) hcx) hS ?_
          intro hS
          refine D_only (i := 8) (by kernel_rfl) rfl ?_
          obtain ⟨b29, hb56⟩ : ∃ b29 : Nat, b29 = World.heapSize (w20.drew) := ⟨_, rfl⟩
          obtain ⟨w30, hw57⟩ : ∃ w30 : World, w30 = World.alloc (w20.drew) (.cells #[.int .i64 0, .slice none 0 0] 66) := ⟨_, rfl⟩
          replace H := H b29 w30 hb56 hw57
          refine O_val (i := 8) (v := .pointer (some ⟨b29, 0, none⟩)) rfl (W_none rfl) (y_alloc Try.type66 rfl rfl hb56 hw57) ?_
          obtain ⟨hs74, hs75, hs76, H⟩ := H
          refine and_keep (SS_on hs74 (SS_on hs75 (SS_on hs76 SS_nil))) fun hS => ?_
          refine D_only (i := 9) (by kernel_rfl) rfl ?_
          obtain ⟨hc58, H⟩ := H
          obtain ⟨w31, hw60⟩ : ∃ w31 : World, w31 = putCells w30 ⟨b29, 0, none⟩ [.int .i64 x27, .slice x28 x28l x28c] 0 := ⟨_, rfl⟩
          replace H := H w31 hw60
          refine O_skip (i := 9) rfl (W_none rfl) (y_storeAgg Try.type66 rfl (by intro v hv; simp only [List.mem_cons, List.not_mem_nil, or_false] at hv; rcases hv with rfl | rfl <;> rfl) (ev_tv rfl rfl) (ev_tv rfl rfl) hc58 hw60) ?_
          refine and_keep (SS_off (by kernel_rfl) (SS_off (by kernel_rfl) (SS_off (by kernel_rfl) SS_nil))) fun hS => ?_
          refine D_done (by kernel_rfl) ?_
          refine then_norm ?_
          refine hK50 _ _ ?_
          clear hK50
          refine D_start Try.mixed rfl [3, 9] ?_
          refine start_keep fun hS => ?_
          refine D_pure (i := 0) (v := .pointer (some ⟨b21, o22, none⟩)) rfl (by kernel_rfl) (W_none rfl) (fun _ => y_move (ev_tv rfl ((hag31 0 rfl).trans ((hag10 0 rfl).trans rfl)))) hS ?_
          intro hS
          refine D_pure (i := 1) (v := .pointer (some ⟨b29, 0, none⟩)) rfl (by kernel_rfl) (W_none rfl) (fun _ => Try.fa66_0 (ev_tv rfl rfl)) hS ?_
          intro hS
          refine D_pure (i := 4) (v := .pointer (some ⟨b29, 0 + 1, none⟩)) rfl (by kernel_rfl) (W_none rfl) (fun _ => Try.fa66_1 (ev_tv rfl rfl)) hS ?_
          intro hS
          refine D_pure (i := 6) (v := .pointer (some ⟨b18, 0 + 1, none⟩)) rfl (by kernel_rfl) (W_none rfl) (fun _ => Try.fa70_1 (ev_tv rfl rfl)) hS ?_
          intro hS
          obtain ⟨x32, hc61, H⟩ := H
          refine D_read (i := 2) (v := .int .i64 x32) rfl (by kernel_rfl) (W_none rfl) (fun wx => World.cell? wx ⟨b29, 0, none⟩ = some (.int .i64 x32)) hc61 (fun _ hcx => y_load Try.underlying3 rfl (ev_tv rfl rfl) hcx) hS ?_
          intro hS
          obtain ⟨x33, x33l, x33c, hc62, H⟩ := H
          refine D_read (i := 5) (v := .slice x33 x33l x33c) rfl (by kernel_rfl) (W_none rfl) (fun wx => World.cell? wx ⟨b29, 0 + 1, none⟩ = some (.slice x33 x33l x33c)) hc62 (fun _ hcx => y_load Try.underlying33 rfl (ev_tv rfl rfl) hcx) hS ?_
          intro hS
          obtain ⟨x34, hc63, H⟩ := H
          refine D_read (i := 7) (v := .int .i64 x34) rfl (by kernel_rfl) (W_none rfl) (fun wx => World.cell? wx ⟨b18, 0 + 1, none⟩ = some (.int .i64 x34)) hc63 (fun _ hcx => y_load Try.underlying3 rfl (ev_tv rfl rfl) hcx) hS ?_
          intro hS
          obtain ⟨hi65, hi66, H⟩ := H
          obtain ⟨a35, ha64⟩ : ∃ a35 : Option Addr, a35 = x33 := ⟨_, rfl⟩
          replace H := H a35 ha64
          refine D_pure (i := 8) (v := .slice a35 ((x34 : Int).toNat) x33c) rfl (by kernel_rfl) (W_none rfl) (fun _ => y_sliceH Try.underlying33 Try.type5 (ev_tv rfl rfl) (ev_tv rfl rfl) hi65 hi66 ha64) hS ?_
          intro hS
          refine D_only (i := 3) (by kernel_rfl) rfl ?_
          refine O_call (i := 3) rfl (W_none rfl) (y_call Try.call31 (map_ev2 (ev_tv rfl rfl) (ev_tv rfl rfl)) ev_f) (Calls.mono H ?_)
          clear H
          rintro _ w37 ⟨x36, x36l, x36c, rfl, H⟩
          refine ⟨_, rfl, ?_⟩
          obtain ⟨hs72, hs73, H⟩ := H
          refine and_keep (SS_on hs72 (SS_on hs73 (SS_off (by kernel_rfl) SS_nil))) fun hS => ?_
          refine D_only (i := 9) (by kernel_rfl) rfl ?_
          obtain ⟨x39, w38, hc67, H⟩ := H
          refine O_val (i := 9) (v := .int .i64 x39) rfl (W_none rfl) (y_bi_copy (map_ev2 (ev_tv rfl rfl) (ev_tv rfl rfl)) hc67) ?_
          obtain ⟨hs70, hs71, H⟩ := H
          refine and_keep (SS_on hs70 (SS_on hs71 (SS_off (by kernel_rfl) SS_nil))) fun hS => ?_
          refine D_done (by kernel_rfl) ?_
          refine block_norm ?_
          refine then_norm ?_
          refine hK40 _ _ ?_
          clear hK40
          refine c_region ?_
          obtain ⟨r40, hr68⟩ : ∃ r40 : Int, r40 = IntKind.wrap .i64 (v11 + 1) := ⟨_, rfl⟩
          replace H := H r40 hr68
          refine L_val (v := .int .i64 r40) (y_add (ev_tv rfl hs35) ev_c hr68) ?_
          refine L_val (v := .int .i64 r40) (y_move (ev_tv rfl rfl)) ?_
          refine l_nil ?_
          refine then_norm ?_
          obtain ⟨m41, hm69, H⟩ := H
          exact ⟨_, rfl, (by repeat (first | exact agree_refl | exact hag31 | exact hag10 | refine agree_upd rfl ?_ | refine agree_via hag31 rfl ?_ | refine agree_via hag10 rfl ?_)), m41, hm69, _, rfl, H⟩
        · replace H := H.2 hb38
          have hq39 : Value.bool (decide ((v11 : Int) < ((a_l2l : Nat) : Int))) = Value.bool false := congrArg Value.bool (decide_eq_false hb38)
          refine cond_f (ev_tv rfl hq39) ?_
          refine c_exit ?_
          refine then_exit ?_
          refine then_exit ?_
          refine block_hit ?_
          refine then_norm ?_
          exact hK18 _ _ (by repeat (first | exact agree_refl | exact hag31 | exact hag10 | refine agree_upd rfl ?_ | refine agree_via hag31 rfl ?_ | refine agree_via hag10 rfl ?_)) H
      · clear H
        intro f15 w4 hag16 HJ17
        have H := hJ14  w4 HJ17
        clear hJ14
        refine c_seq ?_
        intro K19 hK19
        refine c_region ?_
        refine L_val (v := .pointer a_d1) (y_move (ev_tv rfl ((hag16 0 rfl).trans ((hag10 0 rfl).trans rfl)))) ?_
        refine L_call (y_call Try.call32 (map_ev1 (ev_tv rfl rfl)) ev_f) (Calls.mono H ?_)
        clear H
        rintro _ w5 ⟨rfl, H⟩
        refine ⟨_, rfl, ?_⟩
        refine l_nil ?_
        refine then_norm ?_
        refine hK19 _ _ ?_
        clear hK19
        refine c_seq ?_
        intro K20 hK20
        refine c_region ?_
        refine L_val (v := .pointer a_d1) (y_move (ev_tv rfl ((hag16 0 rfl).trans ((hag10 0 rfl).trans rfl)))) ?_
        refine L_val (v := .pointer a_d1) (y_move (ev_tv rfl ((hag16 0 rfl).trans ((hag10 0 rfl).trans rfl)))) ?_
        obtain ⟨b7, o8, rfl, H⟩ := H
        refine L_val (v := .pointer (some ⟨b7, o8, none⟩)) (y_nilCheck (ev_tv rfl rfl)) ?_
        refine L_val (v := .pointer (some ⟨b7, o8 + 3, none⟩)) (Try.fa51_3 (ev_tv rfl rfl)) ?_
        obtain ⟨hc21, hf22, H⟩ := H
        obtain ⟨w9, hw23⟩ : ∃ w9 : World, w9 = World.setCell w5 ⟨b7, o8 + 3, none⟩ (.bool false) := ⟨_, rfl⟩
        replace H := H w9 hw23
        refine L_skip (y_store Try.type4 rfl rfl (ev_tv rfl rfl) ev_c hc21 hf22 hw23) ?_
        refine L_val (v := .pointer (some ⟨b7, o8, none⟩)) (y_nilCheck (ev_tv rfl rfl)) ?_
        refine L_val (v := .pointer (some ⟨b7, o8 + 4, none⟩)) (Try.fa51_4 (ev_tv rfl rfl)) ?_
        obtain ⟨hc24, hf25, H⟩ := H
        obtain ⟨w10, hw26⟩ : ∃ w10 : World, w10 = World.setCell w9 ⟨b7, o8 + 4, none⟩ (.int .i64 0) := ⟨_, rfl⟩
        replace H := H w10 hw26
        refine L_skip (y_store Try.type3 rfl rfl (ev_tv rfl rfl) ev_c hc24 hf25 hw26) ?_
        refine l_nil ?_
        refine then_norm ?_
        refine hK20 _ _ ?_
        clear hK20
        refine c_seq ?_
        intro K27 hK27
        refine c_region ?_
        refine L_val (v := .int .i64 0) (y_assign ev_c) ?_
        refine l_nil ?_
        refine then_norm ?_
        refine hK27 _ _ ?_
        clear hK27
        refine c_ret ?_
        exact body_1 rfl (ev_tv rfl rfl) H

/-- (parapet/disk.Disk).Read -/
def Vc19 (a_d1 : Option Addr) (a_n2 : Int) (w : World) (R : Ending → World → Prop) : Prop :=
  (((a_d1 = none) → R (.returned (.tuple #[.slice none 0 0, .int .i64 6])) w) ∧ ((a_d1 ≠ none) → (Calls Try.prog 33 #[.pointer a_d1, .int .i64 a_n2] w fun e w4 => ∃ x3 : Bool, e = .returned (.bool x3) ∧ (((x3 = true) → (∃ (b6 o7 : Nat), a_d1 = some ⟨b6, o7, none⟩ ∧ (∃ x8 : Int, World.cell? w4 ⟨b6, o7 + 5, none⟩ = some (.int .i64 x8) ∧ (∀ r9 : Int, r9 = IntKind.wrap .i64 (x8 + 1) → ((World.cell? w4 ⟨b6, o7 + 5, none⟩).isSome = true ∧ World.frozen? w4 ⟨b6, o7 + 5, none⟩ = false ∧ ∀ w10 : World, w10 = World.setCell w4 ⟨b6, o7 + 5, none⟩ (.int .i64 r9) → (∃ x11 : Option Nat, World.cell? w10 ⟨b6, o7 + 2, none⟩ = some (.map x11) ∧ (∃ x12 : Option Addr, ∃ x12l : Nat, ∃ x12c : Nat, ∃ ok13 : Bool, (Instr.lookup 48 (.map x11) (.int .i64 a_n2) true).run Try.prog w10 = .ok (.tuple #[.slice x12 x12l x12c, .bool ok13]) w10 ∧ (((ok13 = true) → (Calls Try.prog 23 #[.slice x12 x12l x12c] w10 fun e w15 => ∃ x14 : Option Addr, ∃ x14l : Nat, ∃ x14c : Nat, e = .returned (.slice x14 x14l x14c) ∧ R (.returned (.tuple #[.slice x14 x14l x14c, .int .i64 0])) w15)) ∧ ((ok13 = false) → (Calls Try.prog 31 #[.pointer (some ⟨b6, o7, none⟩), .int .i64 a_n2] w10 fun e w18 => ∃ x17 : Option Addr, ∃ x17l : Nat, ∃ x17c : Nat, e = .returned (.slice x17 x17l x17c) ∧ (Calls Try.prog 23 #[.slice x17 x17l x17c] w18 fun e w21 => ∃ x20 : Option Addr, ∃ x20l : Nat, ∃ x20c : Nat, e = .returned (.slice x20 x20l x20c) ∧ R (.returned (.tuple #[.slice x20 x20l x20c, .int .i64 0])) w21))))))))))) ∧ ((x3 = false) → R (.returned (.tuple #[.slice none 0 0, .int .i64 20])) w4)))))

theorem vc19 {a_d1 : Option Addr} {a_n2 : Int} {w : World} {R : Ending → World → Prop} (H : Vc19 a_d1 a_n2 w R) : Calls Try.prog 19 #[.pointer a_d1, .int .i64 a_n2] w R := by
  unfold Vc19 at H
  refine calls_start [.pointer a_d1, .int .i64 a_n2] Try.func19 rfl Try.ntmps19 rfl ?_
  refine c_seq ?_
  intro K1 hK1
  refine c_region ?_
  refine L_val (v := .slice none 0 0) (y_assign ev_c) ?_
  refine L_val (v := .int .i64 0) (y_assign ev_c) ?_
  refine l_nil ?_
  refine then_norm ?_
  refine hK1 _ _ ?_
  clear hK1
  refine c_seq ?_
  intro K2 hK2
  refine c_seq ?_
  intro K3 hK3
  refine c_region ?_
  refine L_val (v := .pointer a_d1) (y_move (ev_tv rfl rfl)) ?_
  refine L_val (v := .bool (a_d1.isNone)) (y_peq Try.underlying23 (ev_tv rfl rfl) ev_c) ?_
  refine l_nil ?_
  refine then_norm ?_
  refine hK3 _ _ ?_
  clear hK3
  rcases (Classical.em (a_d1 = none)) with hb4 | hb4
  · replace H := H.1 hb4
    have hq5 : Value.bool (a_d1.isNone) = Value.bool true := congrArg Value.bool (isn_t hb4)
    refine cond_t (ev_tv rfl hq5) ?_
    refine c_seq ?_
    intro K6 hK6
    refine c_region ?_
    refine L_val (v := .slice none 0 0) (y_assign ev_c) ?_
    refine L_val (v := .int .i64 6) (y_assign ev_c) ?_
    refine l_nil ?_
    refine then_norm ?_
    refine hK6 _ _ ?_
    clear hK6
    refine c_ret ?_
    refine then_ret ?_
    exact body_2 rfl (ev_tv rfl rfl) (ev_tv rfl rfl) H
  · replace H := H.2 hb4
    have hq5 : Value.bool (a_d1.isNone) = Value.bool false := congrArg Value.bool (isn_f hb4)
    refine cond_f (ev_tv rfl hq5) ?_
    refine c_skip ?_
    refine then_norm ?_
    refine hK2 _ _ ?_
    clear hK2
    refine c_seq ?_
    intro K7 hK7
    refine c_seq ?_
    intro K8 hK8
    refine c_region ?_
    refine L_val (v := .pointer a_d1) (y_move (ev_tv rfl rfl)) ?_
    refine L_val (v := .int .i64 a_n2) (y_move (ev_tv rfl rfl)) ?_
    refine L_call (y_call Try.call33 (map_ev2 (ev_tv rfl rfl) (ev_tv rfl rfl)) ev_f) (Calls.mono H ?_)
    clear H
    rintro _ w4 ⟨x3, rfl, H⟩
    refine ⟨_, rfl, ?_⟩
    rcases Bool.eq_false_or_eq_true x3 with hb9 | hb9
    · replace H := H.1 hb9
      have hq10 : Value.bool (x3) = Value.bool true := congrArg Value.bool hb9
      refine L_val (v := .bool false) (y_not_t (ev_tv rfl hq10)) ?_
      refine l_nil ?_
      refine then_norm ?_
      refine hK8 _ _ ?_
      clear hK8
      refine cond_f (ev_tv rfl rfl) ?_
      refine c_skip ?_
      refine then_norm ?_
      refine hK7 _ _ ?_
      clear hK7
      refine c_seq ?_
      intro K11 hK11
      refine c_region ?_
      refine L_val (v := .pointer a_d1) (y_move (ev_tv rfl rfl)) ?_
      obtain ⟨b6, o7, rfl, H⟩ := H
      refine L_val (v := .pointer (some ⟨b6, o7, none⟩)) (y_nilCheck (ev_tv rfl rfl)) ?_
      refine L_val (v := .pointer (some ⟨b6, o7 + 5, none⟩)) (Try.fa51_5 (ev_tv rfl rfl)) ?_
      obtain ⟨x8, hc12, H⟩ := H
      refine L_val (v := .int .i64 x8) (y_load Try.underlying3 rfl (ev_tv rfl rfl) hc12) ?_
      obtain ⟨r9, hr13⟩ : ∃ r9 : Int, r9 = IntKind.wrap .i64 (x8 + 1) := ⟨_, rfl⟩
      replace H := H r9 hr13
      refine L_val (v := .int .i64 r9) (y_add (ev_tv rfl rfl) ev_c hr13) ?_
      refine L_val (v := .pointer (some ⟨b6, o7, none⟩)) (y_nilCheck (ev_tv rfl rfl)) ?_
      refine L_val (v := .pointer (some ⟨b6, o7 + 5, none⟩)) (Try.fa51_5 (ev_tv rfl rfl)) ?_
      obtain ⟨hc14, hf15, H⟩ := H
      obtain ⟨w10, hw16⟩ : ∃ w10 : World, w10 = World.setCell w4 ⟨b6, o7 + 5, none⟩ (.int .i64 r9) := ⟨_, rfl⟩
      replace H := H w10 hw16
      refine L_skip (y_store Try.type3 rfl rfl (ev_tv rfl rfl) (ev_tv rfl rfl) hc14 hf15 hw16) ?_
      refine l_nil ?_
      refine then_norm ?_
      refine hK11 _ _ ?_
      clear hK11
      refine c_seq ?_
      intro K17 hK17
      refine c_seq ?_
      intro K18 hK18
      refine c_region ?_
      refine L_val (v := .pointer (some ⟨b6, o7, none⟩)) (y_move (ev_tv rfl rfl)) ?_
      refine L_val (v := .pointer (some ⟨b6, o7, none⟩)) (y_nilCheck (ev_tv rfl rfl)) ?_
      refine L_val (v := .pointer (some ⟨b6, o7 + 2, none⟩)) (Try.fa51_2 (ev_tv rfl rfl)) ?_
      obtain ⟨x11, hc19, H⟩ := H
      refine L_val (v := .map x11) (y_load Try.underlying48 rfl (ev_tv rfl rfl) hc19) ?_
      refine L_val (v := .int .i64 a_n2) (y_move (ev_tv rfl rfl)) ?_
      obtain ⟨x12, x12l, x12c, ok13, hc20, H⟩ := H
      refine L_val (v := .tuple #[.slice x12 x12l x12c, .bool ok13]) (y_lookup (ev_tv rfl rfl) (ev_tv rfl rfl) hc20) ?_
      refine L_val (v := .tuple #[.slice x12 x12l x12c, .bool ok13]) (y_move (ev_tv rfl rfl)) ?_
      refine L_val (v := .slice x12 x12l x12c) (y_extract (ev_tv rfl rfl) rfl) ?_
      refine L_val (v := .bool ok13) (y_extract (ev_tv rfl rfl) rfl) ?_
      refine L_val (v := .slice x12 x12l x12c) (y_assign (ev_tv rfl rfl)) ?_
      refine L_val (v := .bool ok13) (y_assign (ev_tv rfl rfl)) ?_
      refine l_nil ?_
      refine then_norm ?_
      refine hK18 _ _ ?_
      clear hK18
      refine c_seq ?_
      intro K21 hK21
      refine c_region ?_
      refine L_val (v := .bool ok13) (y_move (ev_tv rfl rfl)) ?_
      refine l_nil ?_
      refine then_norm ?_
      refine hK21 _ _ ?_
      clear hK21
      rcases Bool.eq_false_or_eq_true ok13 with hb22 | hb22
      · replace H := H.1 hb22
        have hq23 : Value.bool (ok13) = Value.bool true := congrArg Value.bool hb22
        refine cond_t (ev_tv rfl hq23) ?_
        refine c_seq ?_
        intro K24 hK24
        refine c_region ?_
        refine L_val (v := .slice x12 x12l x12c) (y_move (ev_tv rfl rfl)) ?_
        refine L_call (y_call Try.call23 (map_ev1 (ev_tv rfl rfl)) ev_f) (Calls.mono H ?_)
        clear H
        rintro _ w15 ⟨x14, x14l, x14c, rfl, H⟩
        refine ⟨_, rfl, ?_⟩
        refine L_val (v := .slice x14 x14l x14c) (y_assign (ev_tv rfl rfl)) ?_
        refine L_val (v := .int .i64 0) (y_assign ev_c) ?_
        refine l_nil ?_
        refine then_norm ?_
        refine hK24 _ _ ?_
        clear hK24
        refine c_ret ?_
        refine then_ret ?_
        exact body_2 rfl (ev_tv rfl rfl) (ev_tv rfl rfl) H
      · replace H := H.2 hb22
        have hq23 : Value.bool (ok13) = Value.bool false := congrArg Value.bool hb22
        refine cond_f (ev_tv rfl hq23) ?_
        refine c_skip ?_
        refine then_norm ?_
        refine hK17 _ _ ?_
        clear hK17
        refine c_seq ?_
        intro K25 hK25
        refine c_region ?_
        refine L_val (v := .pointer (some ⟨b6, o7, none⟩)) (y_move (ev_tv rfl rfl)) ?_
        refine L_val (v := .int .i64 a_n2) (y_move (ev_tv rfl rfl)) ?_
        refine L_call (y_call Try.call31 (map_ev2 (ev_tv rfl rfl) (ev_tv rfl rfl)) ev_f) (Calls.mono H ?_)
        clear H
        rintro _ w18 ⟨x17, x17l, x17c, rfl, H⟩
        refine ⟨_, rfl, ?_⟩
        refine L_call (y_call Try.call23 (map_ev1 (ev_tv rfl rfl)) ev_f) (Calls.mono H ?_)
        clear H
        rintro _ w21 ⟨x20, x20l, x20c, rfl, H⟩
        refine ⟨_, rfl, ?_⟩
        refine L_val (v := .slice x20 x20l x20c) (y_assign (ev_tv rfl rfl)) ?_
        refine L_val (v := .int .i64 0) (y_assign ev_c) ?_
        refine l_nil ?_
        refine then_norm ?_
        refine hK25 _ _ ?_
        clear hK25
        refine c_ret ?_
        exact body_2 rfl (ev_tv rfl rfl) (ev_tv rfl rfl) H
    · replace H := H.2 hb9
      have hq10 : Value.bool (x3) = Value.bool false := congrArg Value.bool hb9
      refine L_val (v := .bool true) (y_not_f (ev_tv rfl hq10)) ?_
      refine l_nil ?_
      refine then_norm ?_
      refine hK8 _ _ ?_
      clear hK8
      refine cond_t (ev_tv rfl rfl) ?_
      refine c_seq ?_
      intro K26 hK26
      refine c_region ?_
      refine L_val (v := .slice none 0 0) (y_assign ev_c) ?_
      refine L_val (v := .int .i64 20) (y_assign ev_c) ?_
      refine l_nil ?_
      refine then_norm ?_
      refine hK26 _ _ ?_
      clear hK26
      refine c_ret ?_
      refine then_ret ?_
      exact body_2 rfl (ev_tv rfl rfl) (ev_tv rfl rfl) H

/-- (parapet/disk.Disk).Pending -/
def Vc20 (a_d1 : Option Addr) (w : World) (R : Ending → World → Prop) : Prop :=
  (((a_d1 = none) → R (.returned (.slice none 0 0)) w) ∧ ((a_d1 ≠ none) → (∃ (b2 o3 : Nat), a_d1 = some ⟨b2, o3, none⟩ ∧ (∃ x4 : Option Addr, ∃ x4l : Nat, ∃ x4c : Nat, World.cell? w ⟨b2, o3 + 1, none⟩ = some (.slice x4 x4l x4c) ∧ (∃ I11 : Nat → Option Addr → Nat → Nat → Int → World → Prop, (∃ m, I11 m none 0 0 0 w) ∧ ∀ (m7 : Nat) (v5 : Option Addr) (v5l : Nat) (v5c : Nat) (v6 : Int) (w8 : World), I11 m7 v5 v5l v5c v6 w8 → ((((v6 : Int) < ((x4l : Nat) : Int)) → (∃ (b9 o10 : Nat), x4 = some ⟨b9, o10, none⟩ ∧ ((0 : Int) ≤ v6 ∧ v6 < ((x4l : Nat) : Int) ∧ (∃ x11 : Int, ∃ x12 : Option Addr, ∃ x12l : Nat, ∃ x12c : Nat, CellsAt w8 ⟨b9, o10 + (v6 : Int).toNat * 2, none⟩ [.int .i64 x11, .slice x12 x12l x12c] ∧ (∀ (b13 : Nat) (w14 : World), b13 = World.heapSize w8 → w14 = World.alloc w8 (.cells #[.int .i64 0, .slice none 0 0] 66) → ((∀ j, j < 2 → (World.cell? w14 (Addr.add ⟨b13, 0, none⟩ j)).isSome = true ∧ World.frozen? w14 (Addr.add ⟨b13, 0, none⟩ j) = false) ∧ ∀ w15 : World, w15 = putCells w14 ⟨b13, 0, none⟩ [.int .i64 x11, .slice x12 x12l x12c] 0 → (∃ x16 : Int, World.cell? w15 ⟨b13, 0, none⟩ = some (.int .i64 x16) ∧ (∀ (b17 : Nat) (w18 : World), b17 = World.heapSize w15 → w18 = World.alloc w15 (.cells #[.int .i64 x16] 3) → (∃ x20 : Option Addr, ∃ x20l : Nat, ∃ x20c : Nat, ∃ w19 : World, (Builtin.append_ #[43, 43] 43 #[.slice v5 v5l v5c, .slice (some ⟨b17, 0, none⟩) 1 1]).run Try.prog w18 = .ok (.slice x20 x20l x20c) w19 ∧ (∀ r21 : Int, r21 = IntKind.wrap .i64 (v6 + 1) → (∃ m22, m22 < m7 ∧ I11 m22 x20 x20l x20c r21 w19))))))))))) ∧ ((¬ ((v6 : Int) < ((x4l : Nat) : Int))) → R (.returned (.slice v5 v5l v5c)) w8)))))))

theorem vc20 {a_d1 : Option Addr} {w : World} {R : Ending → World → Prop} (H : Vc20 a_d1 w R) : Calls Try.prog 20 #[.pointer a_d1] w R := by
  unfold Vc20 at H
  refine calls_start [.pointer a_d1] Try.func20 rfl Try.ntmps20 rfl ?_
  refine c_seq ?_
  intro K1 hK1
  refine c_region ?_
  refine L_val (v := .slice none 0 0) (y_assign ev_c) ?_
  refine l_nil ?_
  refine then_norm ?_
  refine hK1 _ _ ?_
  clear hK1
  refine c_seq ?_
  intro K2 hK2
  refine c_seq ?_
  intro K3 hK3
  refine c_region ?_
  refine L_val (v := .pointer a_d1) (y_move (ev_tv rfl rfl)) ?_
  refine L_val (v := .bool (a_d1.isNone)) (y_peq Try.underlying23 (ev_tv rfl rfl) ev_c) ?_
  refine l_nil ?_
  refine then_norm ?_
  refine hK3 _ _ ?_
  clear hK3
  rcases (Classical.em (a_d1 = none)) with hb4 | hb4
  · replace H := H.1 hb4
    have hq5 : Value.bool (a_d1.isNone) = Value.bool true := congrArg Value.bool (isn_t hb4)
    refine cond_t (ev_tv rfl hq5) ?_
    refine c_seq ?_
    intro K6 hK6
    refine c_region ?_
    refine L_val (v := .slice none 0 0) (y_assign ev_c) ?_
    refine l_nil ?_
    refine then_norm ?_
    refine hK6 _ _ ?_
    clear hK6
    refine c_ret ?_
    refine then_ret ?_
    exact body_1 rfl (ev_tv rfl rfl) H
  · replace H := H.2 hb4
    have hq5 : Value.bool (a_d1.isNone) = Value.bool false := congrArg Value.bool (isn_f hb4)
    refine cond_f (ev_tv rfl hq5) ?_
    refine c_skip ?_
    refine then_norm ?_
    refine hK2 _ _ ?_
    clear hK2
    refine c_seq ?_
    intro K7 hK7
    refine c_region ?_
    refine L_val (v := .slice none 0 0) (y_assign ev_c) ?_
    refine l_nil ?_
    refine then_norm ?_
    refine hK7 _ _ ?_
    clear hK7
    refine c_seq ?_
    intro K8 hK8
    refine c_seq ?_
    intro K9 hK9
    refine c_region ?_
    refine L_val (v := .pointer a_d1) (y_move (ev_tv rfl rfl)) ?_
    obtain ⟨b2, o3, rfl, H⟩ := H
    refine L_val (v := .pointer (some ⟨b2, o3, none⟩)) (y_nilCheck (ev_tv rfl rfl)) ?_
    refine L_val (v := .pointer (some ⟨b2, o3 + 1, none⟩)) (Try.fa51_1 (ev_tv rfl rfl)) ?_
    obtain ⟨x4, x4l, x4c, hc10, H⟩ := H
    refine L_val (v := .slice x4 x4l x4c) (y_load Try.underlying49 rfl (ev_tv rfl rfl) hc10) ?_
    refine L_val (v := .int .i64 ((x4l : Nat) : Int)) (y_len Try.underlying49 rfl (map_ev1 (ev_tv rfl rfl))) ?_
    refine L_val (v := .int .i64 0) (y_move ev_c) ?_
    refine l_nil ?_
    refine then_norm ?_
    refine hK9 _ _ ?_
    clear hK9
    refine c_block ?_
    obtain ⟨I11, ⟨m15, HI16⟩, H⟩ := H
    refine loop_fr ([(3, 3), (5, 5), (13, 22)]) (fun m ff ww => ∃ (v5 : Option Addr) (v5l : Nat) (v5c : Nat) (v6 : Int), ff 3 = (.slice v5 v5l v5c : Value) ∧ ff 13 = (.int .i64 v6 : Value) ∧ I11 m v5 v5l v5c v6 ww) m15 ⟨none, 0, 0, 0, rfl, rfl, HI16⟩ ?_
    rintro m7 f12 w8 hag13 ⟨v5, v5l, v5c, v6, hs17, hs18, HI14⟩
    replace H := H m7 v5 v5l v5c v6 w8 HI14
    refine c_seq ?_
    intro K19 hK19
    refine c_region ?_
    refine L_val (v := .bool (decide ((v6 : Int) < ((x4l : Nat) : Int)))) (y_lss (ev_tv rfl hs18) (ev_tv rfl ((hag13 12 rfl).trans rfl))) ?_
    refine l_nil ?_
    refine then_norm ?_
    refine hK19 _ _ ?_
    clear hK19
    refine c_seq ?_
    intro K20 hK20
    rcases (Decidable.em ((v6 : Int) < ((x4l : Nat) : Int))) with hb21 | hb21
    · replace H := H.1 hb21
      have hq22 : Value.bool (decide ((v6 : Int) < ((x4l : Nat) : Int))) = Value.bool true := congrArg Value.bool (decide_eq_true hb21)
      refine cond_t (ev_tv rfl hq22) ?_
      refine c_skip ?_
      refine then_norm ?_
      refine hK20 _ _ ?_
      clear hK20
      refine c_seq ?_
      intro K23 hK23
      refine c_block ?_
      refine c_seq ?_
      intro K24 hK24
      refine c_region ?_
      obtain ⟨b9, o10, rfl, H⟩ := H
      obtain ⟨hi25, hi26, H⟩ := H
      refine L_val (v := .pointer (some ⟨b9, o10 + (v6 : Int).toNat * 2, none⟩)) (y_ix Try.underlying49 Try.type66 rfl (ev_tv rfl ((hag13 11 rfl).trans rfl)) (ev_tv rfl hs18) hi25 hi26) ?_
      obtain ⟨x11, x12, x12l, x12c, hc27, H⟩ := H
      refine L_val (v := .agg #[.int .i64 x11, .slice x12 x12l x12c]) (y_loadAgg Try.underlying66 rfl Try.type66 rfl (ev_tv rfl rfl) hc27) ?_
      obtain ⟨b13, hb28⟩ : ∃ b13 : Nat, b13 = World.heapSize w8 := ⟨_, rfl⟩
      obtain ⟨w14, hw29⟩ : ∃ w14 : World, w14 = World.alloc w8 (.cells #[.int .i64 0, .slice none 0 0] 66) := ⟨_, rfl⟩
      replace H := H b13 w14 hb28 hw29
      refine L_val (v := .pointer (some ⟨b13, 0, none⟩)) (y_alloc Try.type66 rfl rfl hb28 hw29) ?_
      obtain ⟨hc30, H⟩ := H
      obtain ⟨w15, hw32⟩ : ∃ w15 : World, w15 = putCells w14 ⟨b13, 0, none⟩ [.int .i64 x11, .slice x12 x12l x12c] 0 := ⟨_, rfl⟩
      replace H := H w15 hw32
      refine L_skip (y_storeAgg Try.type66 rfl (by intro v hv; simp only [List.mem_cons, List.not_mem_nil, or_false] at hv; rcases hv with rfl | rfl <;> rfl) (ev_tv rfl rfl) (ev_tv rfl rfl) hc30 hw32) ?_
      refine l_nil ?_
      refine then_norm ?_
      refine hK24 _ _ ?_
      clear hK24
      refine c_region ?_
      refine L_val (v := .slice v5 v5l v5c) (y_move (ev_tv rfl hs17)) ?_
      refine L_val (v := .pointer (some ⟨b13, 0, none⟩)) (Try.fa66_0 (ev_tv rfl rfl)) ?_
      obtain ⟨x16, hc33, H⟩ := H
      refine L_val (v := .int .i64 x16) (y_load Try.underlying3 rfl (ev_tv rfl rfl) hc33) ?_
      obtain ⟨b17, hb34⟩ : ∃ b17 : Nat, b17 = World.heapSize w15 := ⟨_, rfl⟩
      obtain ⟨w18, hw35⟩ : ∃ w18 : World, w18 = World.alloc w15 (.cells #[.int .i64 x16] 3) := ⟨_, rfl⟩
      replace H := H b17 w18 hb34 hw35
      refine L_val (v := .slice (some ⟨b17, 0, none⟩) 1 1) (y_buildSlice (parts_ev1 (ev_tv rfl rfl)) hb34 hw35 (by kernel_rfl)) ?_
      obtain ⟨x20, x20l, x20c, w19, hc36, H⟩ := H
      refine L_val (v := .slice x20 x20l x20c) (y_bi_append (map_ev2 (ev_tv rfl rfl) (ev_tv rfl rfl)) hc36) ?_
      refine L_val (v := .slice x20 x20l x20c) (y_assign (ev_tv rfl rfl)) ?_
      refine l_nil ?_
      refine block_norm ?_
      refine then_norm ?_
      refine hK23 _ _ ?_
      clear hK23
      refine c_region ?_
      obtain ⟨r21, hr37⟩ : ∃ r21 : Int, r21 = IntKind.wrap .i64 (v6 + 1) := ⟨_, rfl⟩
      replace H := H r21 hr37
      refine L_val (v := .int .i64 r21) (y_add (ev_tv rfl hs18) ev_c hr37) ?_
      refine L_val (v := .int .i64 r21) (y_move (ev_tv rfl rfl)) ?_
      refine l_nil ?_
      refine then_norm ?_
      obtain ⟨m22, hm38, H⟩ := H
      exact ⟨_, rfl, (by repeat (first | exact agree_refl | exact hag13 | refine agree_upd rfl ?_ | refine agree_via hag13 rfl ?_)), m22, hm38, _, _, _, _, rfl, rfl, H⟩
    · replace H := H.2 hb21
      have hq22 : Value.bool (decide ((v6 : Int) < ((x4l : Nat) : Int))) = Value.bool false := congrArg Value.bool (decide_eq_false hb21)
      refine cond_f (ev_tv rfl hq22) ?_
      refine c_exit ?_
      refine then_exit ?_
      refine then_exit ?_
      refine block_hit ?_
      refine then_norm ?_
      refine hK8 _ _ ?_
      clear hK8
      refine c_seq ?_
      intro K39 hK39
      refine c_region ?_
      refine L_val (v := .slice v5 v5l v5c) (y_move (ev_tv rfl hs17)) ?_
      refine L_val (v := .slice v5 v5l v5c) (y_assign (ev_tv rfl rfl)) ?_
      refine l_nil ?_
      refine then_norm ?_
      refine hK39 _ _ ?_
      clear hK39
      refine c_ret ?_
      exact body_1 rfl (ev_tv rfl rfl) H

/-- (parapet/buf.Cache).made -/
def Vc21 (a_c1 : Option Addr) (w : World) (R : Ending → World → Prop) : Prop :=
  (((a_c1 ≠ none) → (∃ (b2 o3 : Nat), a_c1 = some ⟨b2, o3, none⟩ ∧ (∃ x4 : Option Addr, World.cell? w ⟨b2, o3, none⟩ = some (.pointer x4) ∧ R (.returned (.bool (!x4.isNone))) w))) ∧ ((a_c1 = none) → R (.returned (.bool false)) w))

theorem vc21 {a_c1 : Option Addr} {w : World} {R : Ending → World → Prop} (H : Vc21 a_c1 w R) : Calls Try.prog 21 #[.pointer a_c1] w R := by
  unfold Vc21 at H
  refine calls_start [.pointer a_c1] Try.func21 rfl Try.ntmps21 rfl ?_
  refine c_seq ?_
  intro K1 hK1
  refine c_region ?_
  refine L_val (v := .bool false) (y_assign ev_c) ?_
  refine l_nil ?_
  refine then_norm ?_
  refine hK1 _ _ ?_
  clear hK1
  refine c_seq ?_
  intro K2 hK2
  refine c_region ?_
  refine L_val (v := .pointer a_c1) (y_move (ev_tv rfl rfl)) ?_
  refine L_val (v := .bool (!a_c1.isNone)) (y_pne Try.underlying28 (ev_tv rfl rfl) ev_c) ?_
  refine L_val (v := .bool (!a_c1.isNone)) (y_move (ev_tv rfl rfl)) ?_
  rcases (Classical.em (a_c1 ≠ none)) with hb3 | hb3
  · replace H := H.1 hb3
    have hq4 : Value.bool (!a_c1.isNone) = Value.bool true := congrArg Value.bool (nisn_t hb3)
    refine G_val (dj := 5) rfl rfl hq4 (v := .pointer a_c1) (y_move (ev_tv rfl rfl)) ?_
    obtain ⟨b2, o3, rfl, H⟩ := H
    refine G_val (dj := 5) rfl rfl hq4 (v := .pointer (some ⟨b2, o3, none⟩)) (y_nilCheck (ev_tv rfl rfl)) ?_
    refine G_val (dj := 5) rfl rfl hq4 (v := .pointer (some ⟨b2, o3, none⟩)) (Try.fa56_0 (ev_tv rfl rfl)) ?_
    obtain ⟨x4, hc5, H⟩ := H
    refine G_val (dj := 5) rfl rfl hq4 (v := .pointer x4) (y_load Try.underlying23 rfl (ev_tv rfl rfl) hc5) ?_
    refine G_val (dj := 5) rfl rfl hq4 (v := .bool (!x4.isNone)) (y_pne Try.underlying23 (ev_tv rfl rfl) ev_c) ?_
    refine L_val (v := .bool (!x4.isNone)) (y_pick_t (ev_tv rfl hq4) (ev_tv rfl rfl)) ?_
    refine L_val (v := .bool (!x4.isNone)) (y_assign (ev_tv rfl rfl)) ?_
    refine l_nil ?_
    refine then_norm ?_
    refine hK2 _ _ ?_
    clear hK2
    refine c_ret ?_
    exact body_1 rfl (ev_tv rfl rfl) H
  · replace hb3 : a_c1 = none := Classical.not_not.1 hb3
    replace H := H.2 hb3
    have hq4 : Value.bool (!a_c1.isNone) = Value.bool false := congrArg Value.bool (nisn_f hb3)
    refine G_not (b' := false) (dj := 5) rfl rfl hq4 rfl ?_
    refine G_not (b' := false) (dj := 5) rfl rfl hq4 rfl ?_
    refine G_not (b' := false) (dj := 5) rfl rfl hq4 rfl ?_
    refine G_not (b' := false) (dj := 5) rfl rfl hq4 rfl ?_
    refine G_not (b' := false) (dj := 5) rfl rfl hq4 rfl ?_
    refine L_val (v := .bool false) (y_pick_f (ev_tv rfl hq4) ev_c) ?_
    refine L_val (v := .bool false) (y_assign (ev_tv rfl rfl)) ?_
    refine l_nil ?_
    refine then_norm ?_
    refine hK2 _ _ ?_
    clear hK2
    refine c_ret ?_
    exact body_1 rfl (ev_tv rfl rfl) H

/-- (parapet/buf.Cache).last -/
def Vc22 (a_c1 : Option Addr) (a_n2 : Int) (w : World) (R : Ending → World → Prop) : Prop :=
  (Calls Try.prog 27 #[.pointer a_c1, .int .i64 a_n2] w fun e w3 => e = .returned (.tuple #[]) ∧ (∃ (b5 o6 : Nat), a_c1 = some ⟨b5, o6, none⟩ ∧ (∃ x7 : Option Addr, ∃ x7l : Nat, ∃ x7c : Nat, World.cell? w3 ⟨b5, o6 + 3, none⟩ = some (.slice x7 x7l x7c) ∧ (∀ (b8 : Nat) (w9 : World), b8 = World.heapSize w3 → w9 = World.alloc w3 (.cells #[.int .i64 a_n2] 3) → (∃ x11 : Option Addr, ∃ x11l : Nat, ∃ x11c : Nat, ∃ w10 : World, (Builtin.append_ #[43, 43] 43 #[.slice x7 x7l x7c, .slice (some ⟨b8, 0, none⟩) 1 1]).run Try.prog w9 = .ok (.slice x11 x11l x11c) w10 ∧ ((World.cell? w10 ⟨b5, o6 + 3, none⟩).isSome = true ∧ World.frozen? w10 ⟨b5, o6 + 3, none⟩ = false ∧ ∀ w12 : World, w12 = World.setCell w10 ⟨b5, o6 + 3, none⟩ (.slice x11 x11l x11c) → R (.returned (.tuple #[])) w12))))))

theorem vc22 {a_c1 : Option Addr} {a_n2 : Int} {w : World} {R : Ending → World → Prop} (H : Vc22 a_c1 a_n2 w R) : Calls Try.prog 22 #[.pointer a_c1, .int .i64 a_n2] w R := by
  unfold Vc22 at H
  refine calls_start [.pointer a_c1, .int .i64 a_n2] Try.func22 rfl Try.ntmps22 rfl ?_
  refine c_seq ?_
  intro K1 hK1
  refine c_region ?_
  refine L_val (v := .pointer a_c1) (y_move (ev_tv rfl rfl)) ?_
  refine L_val (v := .int .i64 a_n2) (y_move (ev_tv rfl rfl)) ?_
  refine L_call (y_call Try.call27 (map_ev2 (ev_tv rfl rfl) (ev_tv rfl rfl)) ev_f) (Calls.mono H ?_)
  clear H
  rintro _ w3 ⟨rfl, H⟩
  refine ⟨_, rfl, ?_⟩
  refine l_nil ?_
  refine then_norm ?_
  refine hK1 _ _ ?_
  clear hK1
  refine c_region ?_
  refine L_val (v := .pointer a_c1) (y_move (ev_tv rfl rfl)) ?_
  refine L_val (v := .pointer a_c1) (y_move (ev_tv rfl rfl)) ?_
  obtain ⟨b5, o6, rfl, H⟩ := H
  refine L_val (v := .pointer (some ⟨b5, o6, none⟩)) (y_nilCheck (ev_tv rfl rfl)) ?_
  refine L_val (v := .pointer (some ⟨b5, o6 + 3, none⟩)) (Try.fa56_3 (ev_tv rfl rfl)) ?_
  obtain ⟨x7, x7l, x7c, hc2, H⟩ := H
  refine L_val (v := .slice x7 x7l x7c) (y_load Try.underlying43 rfl (ev_tv rfl rfl) hc2) ?_
  refine L_val (v := .int .i64 a_n2) (y_move (ev_tv rfl rfl)) ?_
  obtain ⟨b8, hb3⟩ : ∃ b8 : Nat, b8 = World.heapSize w3 := ⟨_, rfl⟩
  obtain ⟨w9, hw4⟩ : ∃ w9 : World, w9 = World.alloc w3 (.cells #[.int .i64 a_n2] 3) := ⟨_, rfl⟩
  replace H := H b8 w9 hb3 hw4
  refine L_val (v := .slice (some ⟨b8, 0, none⟩) 1 1) (y_buildSlice (parts_ev1 (ev_tv rfl rfl)) hb3 hw4 (by kernel_rfl)) ?_
  obtain ⟨x11, x11l, x11c, w10, hc5, H⟩ := H
  refine L_val (v := .slice x11 x11l x11c) (y_bi_append (map_ev2 (ev_tv rfl rfl) (ev_tv rfl rfl)) hc5) ?_
  refine L_val (v := .pointer (some ⟨b5, o6, none⟩)) (y_nilCheck (ev_tv rfl rfl)) ?_
  refine L_val (v := .pointer (some ⟨b5, o6 + 3, none⟩)) (Try.fa56_3 (ev_tv rfl rfl)) ?_
  obtain ⟨hc6, hf7, H⟩ := H
  obtain ⟨w12, hw8⟩ : ∃ w12 : World, w12 = World.setCell w10 ⟨b5, o6 + 3, none⟩ (.slice x11 x11l x11c) := ⟨_, rfl⟩
  replace H := H w12 hw8
  refine L_skip (y_store Try.type43 rfl rfl (ev_tv rfl rfl) (ev_tv rfl rfl) hc6 hf7 hw8) ?_
  refine l_nil ?_
  refine body_norm ?_
  exact body_0 rfl H

/-- slices.Clone[[]byte,byte] -/
def Vc23 (a_s1 : Option Addr) (a_s1l : Nat) (a_s1c : Nat) (w : World) (R : Ending → World → Prop) : Prop :=
  (((a_s1 = none) → R (.returned (.slice none 0 0)) w) ∧ ((a_s1 ≠ none) → (∀ (b2 : Nat) (w3 : World), b2 = World.heapSize w → w3 = World.alloc w (.cells #[] 5) → (∃ x5 : Option Addr, ∃ x5l : Nat, ∃ x5c : Nat, ∃ w4 : World, (Builtin.append_ #[33, 33] 33 #[.slice (some ⟨b2, 0, none⟩) 0 0, .slice a_s1 a_s1l a_s1c]).run Try.prog w3 = .ok (.slice x5 x5l x5c) w4 ∧ R (.returned (.slice x5 x5l x5c)) w4))))

theorem vc23 {a_s1 : Option Addr} {a_s1l : Nat} {a_s1c : Nat} {w : World} {R : Ending → World → Prop} (H : Vc23 a_s1 a_s1l a_s1c w R) : Calls Try.prog 23 #[.slice a_s1 a_s1l a_s1c] w R := by
  unfold Vc23 at H
  refine calls_start [.slice a_s1 a_s1l a_s1c] Try.func23 rfl Try.ntmps23 rfl ?_
  refine c_seq ?_
  intro K1 hK1
  refine c_region ?_
  refine L_val (v := .slice none 0 0) (y_assign ev_c) ?_
  refine l_nil ?_
  refine then_norm ?_
  refine hK1 _ _ ?_
  clear hK1
  refine c_seq ?_
  intro K2 hK2
  refine c_seq ?_
  intro K3 hK3
  refine c_region ?_
  refine L_val (v := .slice a_s1 a_s1l a_s1c) (y_move (ev_tv rfl rfl)) ?_
  refine L_val (v := .bool (a_s1.isNone)) (y_sleq Try.underlying33 (ev_tv rfl rfl) ev_c) ?_
  refine l_nil ?_
  refine then_norm ?_
  refine hK3 _ _ ?_
  clear hK3
  rcases (Classical.em (a_s1 = none)) with hb4 | hb4
  · replace H := H.1 hb4
    have hq5 : Value.bool (a_s1.isNone) = Value.bool true := congrArg Value.bool (isn_t hb4)
    refine cond_t (ev_tv rfl hq5) ?_
    refine c_seq ?_
    intro K6 hK6
    refine c_region ?_
    refine L_val (v := .slice none 0 0) (y_assign ev_c) ?_
    refine l_nil ?_
    refine then_norm ?_
    refine hK6 _ _ ?_
    clear hK6
    refine c_ret ?_
    refine then_ret ?_
    exact body_1 rfl (ev_tv rfl rfl) H
  · replace H := H.2 hb4
    have hq5 : Value.bool (a_s1.isNone) = Value.bool false := congrArg Value.bool (isn_f hb4)
    refine cond_f (ev_tv rfl hq5) ?_
    refine c_skip ?_
    refine then_norm ?_
    refine hK2 _ _ ?_
    clear hK2
    refine c_seq ?_
    intro K7 hK7
    refine c_region ?_
    obtain ⟨b2, hb8⟩ : ∃ b2 : Nat, b2 = World.heapSize w := ⟨_, rfl⟩
    obtain ⟨w3, hw9⟩ : ∃ w3 : World, w3 = World.alloc w (.cells #[] 5) := ⟨_, rfl⟩
    replace H := H b2 w3 hb8 hw9
    refine L_val (v := .slice (some ⟨b2, 0, none⟩) 0 0) (y_buildSlice rfl hb8 hw9 (by kernel_rfl)) ?_
    refine L_val (v := .slice a_s1 a_s1l a_s1c) (y_move (ev_tv rfl rfl)) ?_
    obtain ⟨x5, x5l, x5c, w4, hc10, H⟩ := H
    refine L_val (v := .slice x5 x5l x5c) (y_bi_append (map_ev2 (ev_tv rfl rfl) (ev_tv rfl rfl)) hc10) ?_
    refine L_val (v := .slice x5 x5l x5c) (y_assign (ev_tv rfl rfl)) ?_
    refine l_nil ?_
    refine then_norm ?_
    refine hK7 _ _ ?_
    clear hK7
    refine c_ret ?_
    exact body_1 rfl (ev_tv rfl rfl) H

/-- (parapet/disk.Disk).Count -/
def Vc24 (a_d1 : Option Addr) (w : World) (R : Ending → World → Prop) : Prop :=
  (((a_d1 = none) → R (.returned (.int .i64 0)) w) ∧ ((a_d1 ≠ none) → (∃ (b2 o3 : Nat), a_d1 = some ⟨b2, o3, none⟩ ∧ (∃ x4 : Option Addr, ∃ x4l : Nat, ∃ x4c : Nat, World.cell? w ⟨b2, o3, none⟩ = some (.slice x4 x4l x4c) ∧ (∀ r5 : Int, r5 = IntKind.wrap .i64 (Int.tdiv ((x4l : Nat) : Int) 512) → R (.returned (.int .i64 r5)) w)))))

theorem vc24 {a_d1 : Option Addr} {w : World} {R : Ending → World → Prop} (H : Vc24 a_d1 w R) : Calls Try.prog 24 #[.pointer a_d1] w R := by
  unfold Vc24 at H
  refine calls_start [.pointer a_d1] Try.func24 rfl Try.ntmps24 rfl ?_
  refine c_seq ?_
  intro K1 hK1
  refine c_region ?_
  refine L_val (v := .int .i64 0) (y_assign ev_c) ?_
  refine l_nil ?_
  refine then_norm ?_
  refine hK1 _ _ ?_
  clear hK1
  refine c_seq ?_
  intro K2 hK2
  refine c_seq ?_
  intro K3 hK3
  refine c_region ?_
  refine L_val (v := .pointer a_d1) (y_move (ev_tv rfl rfl)) ?_
  refine L_val (v := .bool (a_d1.isNone)) (y_peq Try.underlying23 (ev_tv rfl rfl) ev_c) ?_
  refine l_nil ?_
  refine then_norm ?_
  refine hK3 _ _ ?_
  clear hK3
  rcases (Classical.em (a_d1 = none)) with hb4 | hb4
  · replace H := H.1 hb4
    have hq5 : Value.bool (a_d1.isNone) = Value.bool true := congrArg Value.bool (isn_t hb4)
    refine cond_t (ev_tv rfl hq5) ?_
    refine c_seq ?_
    intro K6 hK6
    refine c_region ?_
    refine L_val (v := .int .i64 0) (y_assign ev_c) ?_
    refine l_nil ?_
    refine then_norm ?_
    refine hK6 _ _ ?_
    clear hK6
    refine c_ret ?_
    refine then_ret ?_
    exact body_1 rfl (ev_tv rfl rfl) H
  · replace H := H.2 hb4
    have hq5 : Value.bool (a_d1.isNone) = Value.bool false := congrArg Value.bool (isn_f hb4)
    refine cond_f (ev_tv rfl hq5) ?_
    refine c_skip ?_
    refine then_norm ?_
    refine hK2 _ _ ?_
    clear hK2
    refine c_seq ?_
    intro K7 hK7
    refine c_region ?_
    refine L_val (v := .pointer a_d1) (y_move (ev_tv rfl rfl)) ?_
    obtain ⟨b2, o3, rfl, H⟩ := H
    refine L_val (v := .pointer (some ⟨b2, o3, none⟩)) (y_nilCheck (ev_tv rfl rfl)) ?_
    refine L_val (v := .pointer (some ⟨b2, o3, none⟩)) (Try.fa51_0 (ev_tv rfl rfl)) ?_
    obtain ⟨x4, x4l, x4c, hc8, H⟩ := H
    refine L_val (v := .slice x4 x4l x4c) (y_load Try.underlying33 rfl (ev_tv rfl rfl) hc8) ?_
    refine L_val (v := .int .i64 ((x4l : Nat) : Int)) (y_len Try.underlying33 rfl (map_ev1 (ev_tv rfl rfl))) ?_
    obtain ⟨r5, hr9⟩ : ∃ r5 : Int, r5 = IntKind.wrap .i64 (Int.tdiv ((x4l : Nat) : Int) 512) := ⟨_, rfl⟩
    replace H := H r5 hr9
    refine L_val (v := .int .i64 r5) (y_quo (ev_tv rfl rfl) ev_c (by decide) hr9) ?_
    refine L_val (v := .int .i64 r5) (y_assign (ev_tv rfl rfl)) ?_
    refine l_nil ?_
    refine then_norm ?_
    refine hK7 _ _ ?_
    clear hK7
    refine c_ret ?_
    exact body_1 rfl (ev_tv rfl rfl) H

/-- (parapet/buf.Cache).makeRoom -/
def Vc25 (a_c1 : Option Addr) (w : World) (R : Ending → World → Prop) : Prop :=
  (∀ (b2 : Nat) (w3 : World), b2 = World.heapSize w → w3 = World.alloc w (.cells #[.pointer a_c1] 28) → (∃ x4 : Option Addr, World.cell? (w3.drew) ⟨b2, 0, none⟩ = some (.pointer x4) ∧ (∃ (b5 o6 : Nat), x4 = some ⟨b5, o6, none⟩ ∧ (∃ x7 : Option Addr, ∃ x7l : Nat, ∃ x7c : Nat, World.cell? (w3.drew) ⟨b5, o6 + 3, none⟩ = some (.slice x7 x7l x7c) ∧ (∃ x8 : Option Addr, World.cell? (w3.drew) ⟨b2, 0, none⟩ = some (.pointer x8) ∧ (∃ (b9 o10 : Nat), x8 = some ⟨b9, o10, none⟩ ∧ (∃ x11 : Int, World.cell? (w3.drew) ⟨b9, o10 + 1, none⟩ = some (.int .i64 x11) ∧ ((((((x7l : Nat) : Int) : Int) < x11) → R (.returned (.bool true)) (w3.drew)) ∧ ((¬ ((((x7l : Nat) : Int) : Int) < x11)) → (∃ x12 : Option Addr, World.cell? (w3.drew) ⟨b2, 0, none⟩ = some (.pointer x12) ∧ (∃ (b13 o14 : Nat), x12 = some ⟨b13, o14, none⟩ ∧ (∃ x15 : Option Addr, ∃ x15l : Nat, ∃ x15c : Nat, World.cell? (w3.drew) ⟨b13, o14 + 3, none⟩ = some (.slice x15 x15l x15c) ∧ (Calls Try.prog 34 #[.slice x15 x15l x15c, .func (.func 35) #[] #[.pointer (some ⟨b2, 0, none⟩)]] (w3.drew) fun e w17 => ∃ x16 : Int, e = .returned (.int .i64 x16) ∧ ((((x16 : Int) < 0) → R (.returned (.bool false)) w17) ∧ ((¬ ((x16 : Int) < 0)) → (∃ x19 : Option Addr, World.cell? (w17.drew) ⟨b2, 0, none⟩ = some (.pointer x19) ∧ (∃ (b20 o21 : Nat), x19 = some ⟨b20, o21, none⟩ ∧ (∃ x22 : Option Nat, World.cell? (w17.drew) ⟨b20, o21 + 2, none⟩ = some (.map x22) ∧ (∃ x23 : Option Addr, World.cell? (w17.drew) ⟨b2, 0, none⟩ = some (.pointer x23) ∧ (∃ (b24 o25 : Nat), x23 = some ⟨b24, o25, none⟩ ∧ (∃ x26 : Option Addr, ∃ x26l : Nat, ∃ x26c : Nat, World.cell? (w17.drew) ⟨b24, o25 + 3, none⟩ = some (.slice x26 x26l x26c) ∧ (∃ (b27 o28 : Nat), x26 = some ⟨b27, o28, none⟩ ∧ ((0 : Int) ≤ x16 ∧ x16 < ((x26l : Nat) : Int) ∧ (∃ x29 : Int, World.cell? (w17.drew) ⟨b27, o28 + (x16 : Int).toNat, none⟩ = some (.int .i64 x29) ∧ (∃ w30 : World, (Builtin.delete_ #[52, 3] 0 #[.map x22, .int .i64 x29]).run Try.prog (w17.drew) = .ok (.tuple #[]) w30 ∧ (World.cell? w30 ⟨b24, o25 + 3, none⟩ = some (.slice x26 x26l x26c) ∧ World.cell? w30 ⟨b2, 0, none⟩ = some (.pointer x23) ∧ World.cell? w30 ⟨b2, 0, none⟩ = some (.pointer x19) ∧ (∀ r31 : Int, r31 = IntKind.wrap .i64 (x16 + 1) → (∃ x32 : Option Addr, World.cell? (w30.drew) ⟨b2, 0, none⟩ = some (.pointer x32) ∧ (∃ x33 : Option Addr, World.cell? (w30.drew) ⟨b2, 0, none⟩ = some (.pointer x33) ∧ (∃ (b34 o35 : Nat), x33 = some ⟨b34, o35, none⟩ ∧ (∃ x36 : Option Addr, ∃ x36l : Nat, ∃ x36c : Nat, World.cell? (w30.drew) ⟨b34, o35 + 3, none⟩ = some (.slice x36 x36l x36c) ∧ (Calls Try.prog 36 #[.slice x36 x36l x36c, .int .i64 x16, .int .i64 r31] (w30.drew) fun e w38 => ∃ x37 : Option Addr, ∃ x37l : Nat, ∃ x37c : Nat, e = .returned (.slice x37 x37l x37c) ∧ (World.cell? w38 ⟨b2, 0, none⟩ = some (.pointer x33) ∧ World.cell? w38 ⟨b2, 0, none⟩ = some (.pointer x32) ∧ (∃ (b39 o40 : Nat), x32 = some ⟨b39, o40, none⟩ ∧ ((World.cell? w38 ⟨b39, o40 + 3, none⟩).isSome = true ∧ World.frozen? w38 ⟨b39, o40 + 3, none⟩ = false ∧ ∀ w41 : World, w41 = World.setCell w38 ⟨b39, o40 + 3, none⟩ (.slice x37 x37l x37c) → (∃ x42 : Option Addr, World.cell? w41 ⟨b2, 0, none⟩ = some (.pointer x42) ∧ (∃ (b43 o44 : Nat), x42 = some ⟨b43, o44, none⟩ ∧ (∃ x45 : Int, World.cell? w41 ⟨b43, o44 + 4 + 2, none⟩ = some (.int .i64 x45) ∧ (∀ r46 : Int, r46 = IntKind.wrap .i64 (x45 + 1) → ((World.cell? w41 ⟨b43, o44 + 4 + 2, none⟩).isSome = true ∧ World.frozen? w41 ⟨b43, o44 + 4 + 2, none⟩ = false ∧ ∀ w47 : World, w47 = World.setCell w41 ⟨b43, o44 + 4 + 2, none⟩ (.int .i64 r46) → R (.returned (.bool true)) w47))))))))))))))))))))))))))))))))))))))))

theorem vc25 {a_c1 : Option Addr} {w : World} {R : Ending → World → Prop} (H : Vc25 a_c1 w R) : Calls Try.prog 25 #[.pointer a_c1] w R := by
  unfold Vc25 at H
  refine calls_start [.pointer a_c1] Try.func25 rfl Try.ntmps25 rfl ?_
  refine c_seq ?_
  intro K1 hK1
  refine c_region ?_
  obtain ⟨b2, hb2⟩ : ∃ b2 : Nat, b2 = World.heapSize w := ⟨_, rfl⟩
  obtain ⟨w3, hw3⟩ : ∃ w3 : World, w3 = World.alloc w (.cells #[.pointer a_c1] 28) := ⟨_, rfl⟩
  replace H := H b2 w3 hb2 hw3
  refine L_val (v := .pointer (some ⟨b2, 0, none⟩)) (y_box (ev_tv rfl rfl) rfl hb2 hw3) ?_
  refine L_val (v := .bool false) (y_assign ev_c) ?_
  refine l_nil ?_
  refine then_norm ?_
  refine hK1 _ _ ?_
  clear hK1
  refine c_seq ?_
  intro K4 hK4
  refine c_seq ?_
  intro K5 hK5
  refine D_start Try.mixed rfl [] ?_
  refine start_keep fun hS => ?_
  obtain ⟨x4, hc6, H⟩ := H
  refine D_read (i := 0) (v := .pointer x4) rfl (by kernel_rfl) (W_none rfl) (fun wx => World.cell? wx ⟨b2, 0, none⟩ = some (.pointer x4)) hc6 (fun _ hcx => y_load Try.underlying28 rfl (ev_tv rfl rfl) hcx) hS ?_
  intro hS
  obtain ⟨b5, o6, rfl, H⟩ := H
  refine D_pure (i := 1) (v := .pointer (some ⟨b5, o6, none⟩)) rfl (by kernel_rfl) (W_none rfl) (fun _ => y_nilCheck (ev_tv rfl rfl)) hS ?_
  intro hS
  refine D_pure (i := 2) (v := .pointer (some ⟨b5, o6 + 3, none⟩)) rfl (by kernel_rfl) (W_none rfl) (fun _ => Try.fa56_3 (ev_tv rfl rfl)) hS ?_
  intro hS
  obtain ⟨x7, x7l, x7c, hc7, H⟩ := H
  refine D_read (i := 3) (v := .slice x7 x7l x7c) rfl (by kernel_rfl) (W_none rfl) (fun wx => World.cell? wx ⟨b5, o6 + 3, none⟩ = some (.slice x7 x7l x7c)) hc7 (fun _ hcx => y_load Try.underlying43 rfl (ev_tv rfl rfl) hcx) hS ?_
  intro hS
  refine D_pure (i := 4) (v := .int .i64 ((x7l : Nat) : Int)) rfl (by kernel_rfl) (W_none rfl) (fun _ => y_len Try.underlying43 rfl (map_ev1 (ev_tv rfl rfl))) hS ?_
  intro hS
  obtain ⟨x8, hc8, H⟩ := H
  refine D_read (i := 5) (v := .pointer x8) rfl (by kernel_rfl) (W_none rfl) (fun wx => World.cell? wx ⟨b2, 0, none⟩ = some (.pointer x8)) hc8 (fun _ hcx => y_load Try.underlying28 rfl (ev_tv rfl rfl) hcx) hS ?_
  intro hS
  obtain ⟨b9, o10, rfl, H⟩ := H
  refine D_pure (i := 6) (v := .pointer (some ⟨b9, o10, none⟩)) rfl (by kernel_rfl) (W_none rfl) (fun _ => y_nilCheck (ev_tv rfl rfl)) hS ?_
  intro hS
  refine D_pure (i := 7) (v := .pointer (some ⟨b9, o10 + 1, none⟩)) rfl (by kernel_rfl) (W_none rfl) (fun _ => Try.fa56_1 (ev_tv rfl rfl)) hS ?_
  intro hS
  obtain ⟨x11, hc9, H⟩ := H
  refine D_read (i := 8) (v := .int .i64 x11) rfl (by kernel_rfl) (W_none rfl) (fun wx => World.cell? wx ⟨b9, o10 + 1, none⟩ = some (.int .i64 x11)) hc9 (fun _ hcx => y_load Try.underlying3 rfl (ev_tv rfl rfl) hcx) hS ?_
  intro hS
  refine D_pure (i := 9) (v := .bool (decide ((((x7l : Nat) : Int) : Int) < x11))) rfl (by kernel_rfl) (W_none rfl) (fun _ => y_lss (ev_tv rfl rfl) (ev_tv rfl rfl)) hS ?_
  intro hS
  refine D_done (by kernel_rfl) ?_
  refine then_norm ?_
  refine hK5 _ _ ?_
  clear hK5
  rcases (Decidable.em ((((x7l : Nat) : Int) : Int) < x11)) with hb10 | hb10
  · replace H := H.1 hb10
    have hq11 : Value.bool (decide ((((x7l : Nat) : Int) : Int) < x11)) = Value.bool true := congrArg Value.bool (decide_eq_true hb10)
    refine cond_t (ev_tv rfl hq11) ?_
    refine c_seq ?_
    intro K12 hK12
    refine c_region ?_
    refine L_val (v := .bool true) (y_assign ev_c) ?_
    refine l_nil ?_
    refine then_norm ?_
    refine hK12 _ _ ?_
    clear hK12
    refine c_ret ?_
    refine then_ret ?_
    exact body_1 rfl (ev_tv rfl rfl) H
  · replace H := H.2 hb10
    have hq11 : Value.bool (decide ((((x7l : Nat) : Int) : Int) < x11)) = Value.bool false := congrArg Value.bool (decide_eq_false hb10)
    refine cond_f (ev_tv rfl hq11) ?_
    refine c_skip ?_
    refine then_norm ?_
    refine hK4 _ _ ?_
    clear hK4
    refine c_seq ?_
    intro K13 hK13
    refine c_region ?_
    obtain ⟨x12, hc14, H⟩ := H
    refine L_val (v := .pointer x12) (y_load Try.underlying28 rfl (ev_tv rfl rfl) hc14) ?_
    obtain ⟨b13, o14, rfl, H⟩ := H
    refine L_val (v := .pointer (some ⟨b13, o14, none⟩)) (y_nilCheck (ev_tv rfl rfl)) ?_
    refine L_val (v := .pointer (some ⟨b13, o14 + 3, none⟩)) (Try.fa56_3 (ev_tv rfl rfl)) ?_
    obtain ⟨x15, x15l, x15c, hc15, H⟩ := H
    refine L_val (v := .slice x15 x15l x15c) (y_load Try.underlying43 rfl (ev_tv rfl rfl) hc15) ?_
    refine L_val (v := .func (.func 35) #[] #[.pointer (some ⟨b2, 0, none⟩)]) (y_makeFunc map_ev0 (map_ev1 (ev_tv rfl rfl))) ?_
    refine L_call (y_call Try.call34 (map_ev2 (ev_tv rfl rfl) (ev_tv rfl rfl)) ev_f) (Calls.mono H ?_)
    clear H
    rintro _ w17 ⟨x16, rfl, H⟩
    refine ⟨_, rfl, ?_⟩
    refine L_val (v := .int .i64 x16) (y_assign (ev_tv rfl rfl)) ?_
    refine l_nil ?_
    refine then_norm ?_
    refine hK13 _ _ ?_
    clear hK13
    refine c_seq ?_
    intro K16 hK16
    refine c_seq ?_
    intro K17 hK17
    refine c_region ?_
    refine L_val (v := .int .i64 x16) (y_move (ev_tv rfl rfl)) ?_
    refine L_val (v := .bool (decide ((x16 : Int) < 0))) (y_lss (ev_tv rfl rfl) ev_c) ?_
    refine l_nil ?_
    refine then_norm ?_
    refine hK17 _ _ ?_
    clear hK17
    rcases (Decidable.em ((x16 : Int) < 0)) with hb18 | hb18
    · replace H := H.1 hb18
      have hq19 : Value.bool (decide ((x16 : Int) < 0)) = Value.bool true := congrArg Value.bool (decide_eq_true hb18)
      refine cond_t (ev_tv rfl hq19) ?_
      refine c_seq ?_
      intro K20 hK20
      refine c_region ?_
      refine L_val (v := .bool false) (y_assign ev_c) ?_
      refine l_nil ?_
      refine then_norm ?_
      refine hK20 _ _ ?_
      clear hK20
      refine c_ret ?_
      refine then_ret ?_
      exact body_1 rfl (ev_tv rfl rfl) H
    · replace H := H.2 hb18
      have hq19 : Value.bool (decide ((x16 : Int) < 0)) = Value.bool false := congrArg Value.bool (decide_eq_false hb18)
      refine cond_f (ev_tv rfl hq19) ?_
      refine c_skip ?_
      refine then_norm ?_
      refine hK16 _ _ ?_
      clear hK16
      refine c_seq ?_
      intro K21 hK21
      refine D_start Try.mixed rfl [11] ?_
      refine start_keep fun hS => ?_
      refine D_pure (i := 8) (v := .int .i64 x16) rfl (by kernel_rfl) (W_none rfl) (fun _ => y_move (ev_tv rfl rfl)) hS ?_
      intro hS
      obtain ⟨x19, hc22, H⟩ := H
      refine D_read (i := 0) (v := .pointer x19) rfl (by kernel_rfl) (W_none rfl) (fun wx => World.cell? wx ⟨b2, 0, none⟩ = some (.pointer x19)) hc22 (fun _ hcx => y_load Try.underlying28 rfl (ev_tv rfl rfl) hcx) hS ?_
      intro hS
      obtain ⟨b20, o21, rfl, H⟩ := H
      refine D_pure (i := 1) (v := .pointer (some ⟨b20, o21, none⟩)) rfl (by kernel_rfl) (W_none rfl) (fun _ => y_nilCheck (ev_tv rfl rfl)) hS ?_
      intro hS
      refine D_pure (i := 2) (v := .pointer (some ⟨b20, o21 + 2, none⟩)) rfl (by kernel_rfl) (W_none rfl) (fun _ => Try.fa56_2 (ev_tv rfl rfl)) hS ?_
      intro hS
      obtain ⟨x22, hc23, H⟩ := H
      refine D_read (i := 3) (v := .map x22) rfl (by kernel_rfl) (W_none rfl) (fun wx => World.cell? wx ⟨b20, o21 + 2, none⟩ = some (.map x22)) hc23 (fun _ hcx => y_load Try.underlying52 rfl (ev_tv rfl rfl) hcx) hS ?_
      intro hS
      obtain ⟨x23, hc24, H⟩ := H
      refine D_read (i := 4) (v := .pointer x23) rfl (by kernel_rfl) (W_none rfl) (fun wx => World.cell? wx ⟨b2, 0, none⟩ = some (.pointer x23)) hc24 (fun _ hcx => y_load Try.underlying28 rfl (ev_tv rfl rfl) hcx) hS ?_
      intro hS
      obtain ⟨b24, o25, rfl, H⟩ := H
      refine D_pure (i := 5) (v := .pointer (some ⟨b24, o25, none⟩)) rfl (by kernel_rfl) (W_none rfl) (fun _ => y_nilCheck (ev_tv rfl rfl)) hS ?_
      intro hS
      refine D_pure (i := 6) (v := .pointer (some ⟨b24, o25 + 3, none⟩)) rfl (by kernel_rfl) (W_none rfl) (fun _ => Try.fa56_3 (ev_tv rfl rfl)) hS ?_
      intro hS
      obtain ⟨x26, x26l, x26c, hc25, H⟩ := H
      refine D_read (i := 7) (v := .slice x26 x26l x26c) rfl (by kernel_rfl) (W_none rfl) (fun wx => World.cell? wx ⟨b24, o25 + 3, none⟩ = some (.slice x26 x26l x26c)) hc25 (fun _ hcx => y_load Try.underlying43 rfl (ev_tv rfl rfl) hcx) hS ?_
      intro hS
      obtain ⟨b27, o28, rfl, H⟩ := H
      obtain ⟨hi26, hi27, H⟩ := H
      refine D_pure (i := 9) (v := .pointer (some ⟨b27, o28 + (x16 : Int).toNat, none⟩)) rfl (by kernel_rfl) (W_none rfl) (fun _ => y_ix1 Try.underlying43 Try.type3 rfl (ev_tv rfl rfl) (ev_tv rfl rfl) hi26 hi27) hS ?_
      intro hS
      obtain ⟨x29, hc28, H⟩ := H
      refine D_read (i := 10) (v := .int .i64 x29) rfl (by kernel_rfl) (W_none rfl) (fun wx => World.cell? wx ⟨b27, o28 + (x16 : Int).toNat, none⟩ = some (.int .i64 x29)) hc28 (fun _ hcx => y_load Try.underlying3 rfl (ev_tv rfl rfl) hcx) hS ?_
      intro hS
      refine D_only (i := 11) (by kernel_rfl) rfl ?_
      obtain ⟨w30, hc29, H⟩ := H
      refine O_valn (i := 11) (v := .tuple #[]) rfl (W_none rfl) (y_bi_delete (map_ev2 (ev_tv rfl rfl) (ev_tv rfl rfl)) hc29) ?_
      obtain ⟨hs48, hs49, hs50, H⟩ := H
      refine and_keep (SS_off (by kernel_rfl) (SS_on hs48 (SS_on hs49 (SS_off (by kernel_rfl) (SS_on hs50 SS_nil))))) fun hS => ?_
      refine D_done (by kernel_rfl) ?_
      refine then_norm ?_
      refine hK21 _ _ ?_
      clear hK21
      refine c_seq ?_
      intro K30 hK30
      refine D_start Try.mixed rfl [8, 11] ?_
      refine start_keep fun hS => ?_
      refine D_pure (i := 5) (v := .int .i64 x16) rfl (by kernel_rfl) (W_none rfl) (fun _ => y_move (ev_tv rfl rfl)) hS ?_
      intro hS
      refine D_pure (i := 6) (v := .int .i64 x16) rfl (by kernel_rfl) (W_none rfl) (fun _ => y_move (ev_tv rfl rfl)) hS ?_
      intro hS
      obtain ⟨r31, hr31⟩ : ∃ r31 : Int, r31 = IntKind.wrap .i64 (x16 + 1) := ⟨_, rfl⟩
      replace H := H r31 hr31
      refine D_pure (i := 7) (v := .int .i64 r31) rfl (by kernel_rfl) (W_none rfl) (fun _ => y_add (ev_tv rfl rfl) ev_c hr31) hS ?_
      intro hS
      obtain ⟨x32, hc32, H⟩ := H
      refine D_read (i := 0) (v := .pointer x32) rfl (by kernel_rfl) (W_none rfl) (fun wx => World.cell? wx ⟨b2, 0, none⟩ = some (.pointer x32)) hc32 (fun _ hcx => y_load Try.underlying28 rfl (ev_tv rfl rfl) hcx) hS ?_
      intro hS
      obtain ⟨x33, hc33, H⟩ := H
      refine D_read (i := 1) (v := .pointer x33) rfl (by kernel_rfl) (W_none rfl) (fun wx => World.cell? wx ⟨b2, 0, none⟩ = some (.pointer x33)) hc33 (fun _ hcx => y_load Try.underlying28 rfl (ev_tv rfl rfl) hcx) hS ?_
      intro hS
      obtain ⟨b34, o35, rfl, H⟩ := H
      refine D_pure (i := 2) (v := .pointer (some ⟨b34, o35, none⟩)) rfl (by kernel_rfl) (W_none rfl) (fun _ => y_nilCheck (ev_tv rfl rfl)) hS ?_
      intro hS
      refine D_pure (i := 3) (v := .pointer (some ⟨b34, o35 + 3, none⟩)) rfl (by kernel_rfl) (W_none rfl) (fun _ => Try.fa56_3 (ev_tv rfl rfl)) hS ?_
      intro hS
      obtain ⟨x36, x36l, x36c, hc34, H⟩ := H
      refine D_read (i := 4) (v := .slice x36 x36l x36c) rfl (by kernel_rfl) (W_none rfl) (fun wx => World.cell? wx ⟨b34, o35 + 3, none⟩ = some (.slice x36 x36l x36c)) hc34 (fun _ hcx => y_load Try.underlying43 rfl (ev_tv rfl rfl) hcx) hS ?_
      intro hS
      refine D_only (i := 8) (by kernel_rfl) rfl ?_
      refine O_call (i := 8) rfl (W_none rfl) (y_call Try.call36 (map_ev3 (ev_tv rfl rfl) (ev_tv rfl rfl) (ev_tv rfl rfl)) ev_f) (Calls.mono H ?_)
      clear H
      rintro _ w38 ⟨x37, x37l, x37c, rfl, H⟩
      refine ⟨_, rfl, ?_⟩
      obtain ⟨hs46, hs47, H⟩ := H
      refine and_keep (SS_off (by kernel_rfl) (SS_on hs46 (SS_on hs47 SS_nil))) fun hS => ?_
      obtain ⟨b39, o40, rfl, H⟩ := H
      refine D_pure (i := 9) (v := .pointer (some ⟨b39, o40, none⟩)) rfl (by kernel_rfl) (W_none rfl) (fun _ => y_nilCheck (ev_tv rfl rfl)) hS ?_
      intro hS
      refine D_pure (i := 10) (v := .pointer (some ⟨b39, o40 + 3, none⟩)) rfl (by kernel_rfl) (W_none rfl) (fun _ => Try.fa56_3 (ev_tv rfl rfl)) hS ?_
      intro hS
      refine D_only (i := 11) (by kernel_rfl) rfl ?_
      obtain ⟨hc35, hf36, H⟩ := H
      obtain ⟨w41, hw37⟩ : ∃ w41 : World, w41 = World.setCell w38 ⟨b39, o40 + 3, none⟩ (.slice x37 x37l x37c) := ⟨_, rfl⟩
      replace H := H w41 hw37
      refine O_skip (i := 11) rfl (W_none rfl) (y_store Try.type43 rfl rfl (ev_tv rfl rfl) (ev_tv rfl rfl) hc35 hf36 hw37) ?_
      refine and_keep (SS_off (by kernel_rfl) (SS_off (by kernel_rfl) (SS_off (by kernel_rfl) SS_nil))) fun hS => ?_
      refine D_done (by kernel_rfl) ?_
      refine then_norm ?_
      refine hK30 _ _ ?_
      clear hK30
      refine c_seq ?_
      intro K38 hK38
      refine c_region ?_
      obtain ⟨x42, hc39, H⟩ := H
      refine L_val (v := .pointer x42) (y_load Try.underlying28 rfl (ev_tv rfl rfl) hc39) ?_
      obtain ⟨b43, o44, rfl, H⟩ := H
      refine L_val (v := .pointer (some ⟨b43, o44, none⟩)) (y_nilCheck (ev_tv rfl rfl)) ?_
      refine L_val (v := .pointer (some ⟨b43, o44 + 4, none⟩)) (Try.fa56_4 (ev_tv rfl rfl)) ?_
      refine L_val (v := .pointer (some ⟨b43, o44 + 4 + 2, none⟩)) (Try.fa54_2 (ev_tv rfl rfl)) ?_
      obtain ⟨x45, hc40, H⟩ := H
      refine L_val (v := .int .i64 x45) (y_load Try.underlying3 rfl (ev_tv rfl rfl) hc40) ?_
      obtain ⟨r46, hr41⟩ : ∃ r46 : Int, r46 = IntKind.wrap .i64 (x45 + 1) := ⟨_, rfl⟩
      replace H := H r46 hr41
      refine L_val (v := .int .i64 r46) (y_add (ev_tv rfl rfl) ev_c hr41) ?_
      refine L_val (v := .pointer (some ⟨b43, o44, none⟩)) (y_nilCheck (ev_tv rfl rfl)) ?_
      refine L_val (v := .pointer (some ⟨b43, o44 + 4, none⟩)) (Try.fa56_4 (ev_tv rfl rfl)) ?_
      refine L_val (v := .pointer (some ⟨b43, o44 + 4 + 2, none⟩)) (Try.fa54_2 (ev_tv rfl rfl)) ?_
      obtain ⟨hc42, hf43, H⟩ := H
      obtain ⟨w47, hw44⟩ : ∃ w47 : World, w47 = World.setCell w41 ⟨b43, o44 + 4 + 2, none⟩ (.int .i64 r46) := ⟨_, rfl⟩
      replace H := H w47 hw44
      refine L_skip (y_store Try.type3 rfl rfl (ev_tv rfl rfl) (ev_tv rfl rfl) hc42 hf43 hw44) ?_
      refine l_nil ?_
      refine then_norm ?_
      refine hK38 _ _ ?_
      clear hK38
      refine c_seq ?_
      intro K45 hK45
      refine c_region ?_
      refine L_val (v := .bool true) (y_assign ev_c) ?_
      refine l_nil ?_
      refine then_norm ?_
      refine hK45 _ _ ?_
      clear hK45
      refine c_ret ?_
      exact body_1 rfl (ev_tv rfl rfl) H

/-- (parapet/disk.Disk).Write -/
def Vc26 (a_d1 : Option Addr) (a_n2 : Int) (a_b3 : Option Addr) (a_b3l : Nat) (a_b3c : Nat) (w : World) (R : Ending → World → Prop) : Prop :=
  (((a_d1 = none) → R (.returned (.int .i64 6)) w) ∧ ((a_d1 ≠ none) → (Calls Try.prog 33 #[.pointer a_d1, .int .i64 a_n2] w fun e w5 => ∃ x4 : Bool, e = .returned (.bool x4) ∧ (((x4 = true) → (((¬ ((((a_b3l : Nat) : Int) : Int) = 512)) → R (.returned (.int .i64 1)) w5) ∧ (((((a_b3l : Nat) : Int) : Int) = 512) → (Calls Try.prog 30 #[.pointer a_d1] w5 fun e w8 => ∃ x7 : Bool, e = .returned (.bool x7) ∧ (((x7 = true) → (Calls Try.prog 23 #[.slice a_b3 a_b3l a_b3c] w8 fun e w11 => ∃ x10 : Option Addr, ∃ x10l : Nat, ∃ x10c : Nat, e = .returned (.slice x10 x10l x10c) ∧ (∀ (b13 : Nat) (w14 : World), b13 = World.heapSize w11 → w14 = World.alloc w11 (.cells #[.int .i64 0, .slice none 0 0] 66) → ((∀ j, j < 2 → (World.cell? w14 (Addr.add ⟨b13, 0, none⟩ j)).isSome = true ∧ World.frozen? w14 (Addr.add ⟨b13, 0, none⟩ j) = false) ∧ ∀ w15 : World, w15 = putCells w14 ⟨b13, 0, none⟩ [.int .i64 a_n2, .slice x10 x10l x10c] 0 → (∃ (b16 o17 : Nat), a_d1 = some ⟨b16, o17, none⟩ ∧ (∃ x18 : Option Addr, ∃ x18l : Nat, ∃ x18c : Nat, World.cell? (w15.drew) ⟨b16, o17 + 1, none⟩ = some (.slice x18 x18l x18c) ∧ (∃ x19 : Int, ∃ x20 : Option Addr, ∃ x20l : Nat, ∃ x20c : Nat, CellsAt (w15.drew) ⟨b13, 0, none⟩ [.int .i64 x19, .slice x20 x20l x20c] ∧ (∀ (b21 : Nat) (w22 : World), b21 = World.heapSize (w15.drew) → w22 = World.alloc (w15.drew) (.cells #[.int .i64 x19, .slice x20 x20l x20c] 66) → (World.cell? w22 ⟨b16, o17 + 1, none⟩ = some (.slice x18 x18l x18c) ∧ (∃ x24 : Option Addr, ∃ x24l : Nat, ∃ x24c : Nat, ∃ w23 : World, (Builtin.append_ #[49, 49] 49 #[.slice x18 x18l x18c, .slice (some ⟨b21, 0, none⟩) 1 1]).run Try.prog w22 = .ok (.slice x24 x24l x24c) w23 ∧ ((World.cell? w23 ⟨b16, o17 + 1, none⟩).isSome = true ∧ World.frozen? w23 ⟨b16, o17 + 1, none⟩ = false ∧ ∀ w25 : World, w25 = World.setCell w23 ⟨b16, o17 + 1, none⟩ (.slice x24 x24l x24c) → (∃ x26 : Option Nat, World.cell? (w25.drew) ⟨b16, o17 + 2, none⟩ = some (.map x26) ∧ (∃ x27 : Option Addr, ∃ x27l : Nat, ∃ x27c : Nat, World.cell? (w25.drew) ⟨b13, 0 + 1, none⟩ = some (.slice x27 x27l x27c) ∧ (∃ w28 : World, (Instr.mapUpdate 48 (.map x26) (.int .i64 a_n2) (.slice x27 x27l x27c)).run Try.prog (w25.drew) = .ok () w28 ∧ (∃ x29 : Int, World.cell? w28 ⟨b16, o17 + 6, none⟩ = some (.int .i64 x29) ∧ (∀ r30 : Int, r30 = IntKind.wrap .i64 (x29 + 1) → ((World.cell? w28 ⟨b16, o17 + 6, none⟩).isSome = true ∧ World.frozen? w28 ⟨b16, o17 + 6, none⟩ = false ∧ ∀ w31 : World, w31 = World.setCell w28 ⟨b16, o17 + 6, none⟩ (.int .i64 r30) → R (.returned (.int .i64 0)) w31))))))))))))))))) ∧ ((x7 = false) → R (.returned (.int .i64 0)) w8)))))) ∧ ((x4 = false) → R (.returned (.int .i64 20)) w5)))))

theorem vc26 {a_d1 : Option Addr} {a_n2 : Int} {a_b3 : Option Addr} {a_b3l : Nat} {a_b3c : Nat} {w : World} {R : Ending → World → Prop} (H : Vc26 a_d1 a_n2 a_b3 a_b3l a_b3c w R) : Calls Try.prog 26 #[.pointer a_d1, .int .i64 a_n2, .slice a_b3 a_b3l a_b3c] w R := by
  unfold Vc26 at H
  refine calls_start [.pointer a_d1, .int .i64 a_n2, .slice a_b3 a_b3l a_b3c] Try.func26 rfl Try.ntmps26 rfl ?_
  refine c_seq ?_
  intro K1 hK1
  refine c_region ?_
  refine L_val (v := .int .i64 0) (y_assign ev_c) ?_
  refine l_nil ?_
  refine then_norm ?_
  refine hK1 _ _ ?_
  clear hK1
  refine c_seq ?_
  intro K2 hK2
  refine c_block ?_
  refine c_seq ?_
  intro K3 hK3
  refine c_region ?_
  refine L_val (v := .pointer a_d1) (y_move (ev_tv rfl rfl)) ?_
  refine L_val (v := .bool (a_d1.isNone)) (y_peq Try.underlying23 (ev_tv rfl rfl) ev_c) ?_
  refine L_val (v := .bool (a_d1.isNone)) (y_assign (ev_tv rfl rfl)) ?_
  refine l_nil ?_
  refine then_norm ?_
  refine hK3 _ _ ?_
  clear hK3
  rcases (Classical.em (a_d1 = none)) with hb4 | hb4
  · replace H := H.1 hb4
    have hq5 : Value.bool (a_d1.isNone) = Value.bool true := congrArg Value.bool (isn_t hb4)
    refine cond_t (ev_tv rfl hq5) ?_
    refine c_seq ?_
    intro K6 hK6
    refine c_region ?_
    refine L_val (v := .int .i64 6) (y_assign ev_c) ?_
    refine l_nil ?_
    refine then_norm ?_
    refine hK6 _ _ ?_
    clear hK6
    refine c_ret ?_
    refine block_ret ?_
    refine then_ret ?_
    exact body_1 rfl (ev_tv rfl rfl) H
  · replace H := H.2 hb4
    have hq5 : Value.bool (a_d1.isNone) = Value.bool false := congrArg Value.bool (isn_f hb4)
    refine cond_f (ev_tv rfl hq5) ?_
    refine c_seq ?_
    intro K7 hK7
    refine c_region ?_
    refine L_val (v := .pointer a_d1) (y_move (ev_tv rfl rfl)) ?_
    refine L_val (v := .int .i64 a_n2) (y_move (ev_tv rfl rfl)) ?_
    refine L_call (y_call Try.call33 (map_ev2 (ev_tv rfl rfl) (ev_tv rfl rfl)) ev_f) (Calls.mono H ?_)
    clear H
    rintro _ w5 ⟨x4, rfl, H⟩
    refine ⟨_, rfl, ?_⟩
    rcases Bool.eq_false_or_eq_true x4 with hb8 | hb8
    · replace H := H.1 hb8
      have hq9 : Value.bool (x4) = Value.bool true := congrArg Value.bool hb8
      refine L_val (v := .bool false) (y_not_t (ev_tv rfl hq9)) ?_
      refine L_val (v := .bool false) (y_assign (ev_tv rfl rfl)) ?_
      refine l_nil ?_
      refine then_norm ?_
      refine hK7 _ _ ?_
      clear hK7
      refine cond_f (ev_tv rfl rfl) ?_
      refine c_seq ?_
      intro K10 hK10
      refine c_region ?_
      refine L_val (v := .slice a_b3 a_b3l a_b3c) (y_move (ev_tv rfl rfl)) ?_
      refine L_val (v := .int .i64 ((a_b3l : Nat) : Int)) (y_len Try.underlying33 rfl (map_ev1 (ev_tv rfl rfl))) ?_
      refine L_val (v := .bool (!decide ((((a_b3l : Nat) : Int) : Int) = 512))) (y_ine (ev_tv rfl rfl) ev_c) ?_
      refine L_val (v := .bool (!decide ((((a_b3l : Nat) : Int) : Int) = 512))) (y_assign (ev_tv rfl rfl)) ?_
      refine l_nil ?_
      refine then_norm ?_
      refine hK10 _ _ ?_
      clear hK10
      rcases (Decidable.em ((((a_b3l : Nat) : Int) : Int) = 512)).symm with hb11 | hb11
      · replace H := H.1 hb11
        have hq12 : Value.bool (!decide ((((a_b3l : Nat) : Int) : Int) = 512)) = Value.bool true := congrArg Value.bool (ndec_t hb11)
        refine cond_t (ev_tv rfl hq12) ?_
        refine c_seq ?_
        intro K13 hK13
        refine c_region ?_
        refine L_val (v := .int .i64 1) (y_assign ev_c) ?_
        refine l_nil ?_
        refine then_norm ?_
        refine hK13 _ _ ?_
        clear hK13
        refine c_ret ?_
        refine block_ret ?_
        refine then_ret ?_
        exact body_1 rfl (ev_tv rfl rfl) H
      · replace H := H.2 hb11
        have hq12 : Value.bool (!decide ((((a_b3l : Nat) : Int) : Int) = 512)) = Value.bool false := congrArg Value.bool (ndec_f hb11)
        refine cond_f (ev_tv rfl hq12) ?_
        refine c_seq ?_
        intro K14 hK14
        refine c_region ?_
        refine L_val (v := .pointer a_d1) (y_move (ev_tv rfl rfl)) ?_
        refine L_call (y_call Try.call30 (map_ev1 (ev_tv rfl rfl)) ev_f) (Calls.mono H ?_)
        clear H
        rintro _ w8 ⟨x7, rfl, H⟩
        refine ⟨_, rfl, ?_⟩
        rcases Bool.eq_false_or_eq_true x7 with hb15 | hb15
        · replace H := H.1 hb15
          have hq16 : Value.bool (x7) = Value.bool true := congrArg Value.bool hb15
          refine L_val (v := .bool false) (y_not_t (ev_tv rfl hq16)) ?_
          refine L_val (v := .bool false) (y_assign (ev_tv rfl rfl)) ?_
          refine l_nil ?_
          refine then_norm ?_
          refine hK14 _ _ ?_
          clear hK14
          refine cond_f (ev_tv rfl rfl) ?_
          refine c_skip ?_
          refine block_norm ?_
          refine then_norm ?_
          refine hK2 _ _ ?_
          clear hK2
          refine c_seq ?_
          intro K17 hK17
          refine c_region ?_
          refine L_val (v := .int .i64 a_n2) (y_move (ev_tv rfl rfl)) ?_
          refine L_val (v := .slice a_b3 a_b3l a_b3c) (y_move (ev_tv rfl rfl)) ?_
          refine L_call (y_call Try.call23 (map_ev1 (ev_tv rfl rfl)) ev_f) (Calls.mono H ?_)
          clear H
          rintro _ w11 ⟨x10, x10l, x10c, rfl, H⟩
          refine ⟨_, rfl, ?_⟩
          refine L_val (v := .agg #[.int .i64 a_n2, .slice x10 x10l x10c]) (y_build (parts_ev2 (ev_tv rfl rfl) (ev_tv rfl rfl)) (by kernel_rfl)) ?_
          obtain ⟨b13, hb18⟩ : ∃ b13 : Nat, b13 = World.heapSize w11 := ⟨_, rfl⟩
          obtain ⟨w14, hw19⟩ : ∃ w14 : World, w14 = World.alloc w11 (.cells #[.int .i64 0, .slice none 0 0] 66) := ⟨_, rfl⟩
          replace H := H b13 w14 hb18 hw19
          refine L_val (v := .pointer (some ⟨b13, 0, none⟩)) (y_alloc Try.type66 rfl rfl hb18 hw19) ?_
          obtain ⟨hc20, H⟩ := H
          obtain ⟨w15, hw22⟩ : ∃ w15 : World, w15 = putCells w14 ⟨b13, 0, none⟩ [.int .i64 a_n2, .slice x10 x10l x10c] 0 := ⟨_, rfl⟩
          replace H := H w15 hw22
          refine L_skip (y_storeAgg Try.type66 rfl (by intro v hv; simp only [List.mem_cons, List.not_mem_nil, or_false] at hv; rcases hv with rfl | rfl <;> rfl) (ev_tv rfl rfl) (ev_tv rfl rfl) hc20 hw22) ?_
          refine l_nil ?_
          refine then_norm ?_
          refine hK17 _ _ ?_
          clear hK17
          refine c_seq ?_
          intro K23 hK23
          refine D_start Try.mixed rfl [6, 7, 10] ?_
          refine start_keep fun hS => ?_
          refine D_pure (i := 0) (v := .pointer a_d1) rfl (by kernel_rfl) (W_none rfl) (fun _ => y_move (ev_tv rfl rfl)) hS ?_
          intro hS
          refine D_pure (i := 1) (v := .pointer a_d1) rfl (by kernel_rfl) (W_none rfl) (fun _ => y_move (ev_tv rfl rfl)) hS ?_
          intro hS
          obtain ⟨b16, o17, rfl, H⟩ := H
          refine D_pure (i := 2) (v := .pointer (some ⟨b16, o17, none⟩)) rfl (by kernel_rfl) (W_none rfl) (fun _ => y_nilCheck (ev_tv rfl rfl)) hS ?_
          intro hS
          refine D_pure (i := 3) (v := .pointer (some ⟨b16, o17 + 1, none⟩)) rfl (by kernel_rfl) (W_none rfl) (fun _ => Try.fa51_1 (ev_tv rfl rfl)) hS ?_
          intro hS
          obtain ⟨x18, x18l, x18c, hc24, H⟩ := H
          refine D_read (i := 4) (v := .slice x18 x18l x18c) rfl (by kernel_rfl) (W_none rfl) (fun wx => World.cell? wx ⟨b16, o17 + 1, none⟩ = some (.slice x18 x18l x18c)) hc24 (fun _ hcx => y_load Try.underlying49 rfl (ev_tv rfl rfl) hcx) hS ?_
          intro hS
          obtain ⟨x19, x20, x20l, x20c, hc25, H⟩ := H
          refine D_read (i := 5) (v := .agg #[.int .i64 x19, .slice x20 x20l x20c]) rfl (by kernel_rfl) (W_none rfl) (fun wx => CellsAt wx ⟨b13, 0, none⟩ [.int .i64 x19, .slice x20 x20l x20c]) hc25 (fun _ hcx => y_loadAgg Try.underlying66 rfl Try.type66 rfl (ev_tv rfl rfl) hcx) hS ?_
          intro hS
          refine D_only (i := 6) (by kernel_rfl) rfl ?_
          obtain ⟨b21, hb26⟩ : ∃ b21 : Nat, b21 = World.heapSize (w15.drew) := ⟨_, rfl⟩
          obtain ⟨w22, hw27⟩ : ∃ w22 : World, w22 = World.alloc (w15.drew) (.cells #[.int .i64 x19, .slice x20 x20l x20c] 66) := ⟨_, rfl⟩
          replace H := H b21 w22 hb26 hw27
          refine O_val (i := 6) (v := .slice (some ⟨b21, 0, none⟩) 1 1) rfl (W_none rfl) (y_buildSlice (parts_ev1 (ev_tv rfl rfl)) hb26 hw27 (by kernel_rfl)) ?_
          obtain ⟨hs43, H⟩ := H
          refine and_keep (SS_off (by kernel_rfl) (SS_on hs43 SS_nil)) fun hS => ?_
          refine D_only (i := 7) (by kernel_rfl) rfl ?_
          obtain ⟨x24, x24l, x24c, w23, hc28, H⟩ := H
          refine O_val (i := 7) (v := .slice x24 x24l x24c) rfl (W_none rfl) (y_bi_append (map_ev2 (ev_tv rfl rfl) (ev_tv rfl rfl)) hc28) ?_
          refine and_keep (SS_off (by kernel_rfl) (SS_off (by kernel_rfl) SS_nil)) fun hS => ?_
          refine D_pure (i := 8) (v := .pointer (some ⟨b16, o17, none⟩)) rfl (by kernel_rfl) (W_none rfl) (fun _ => y_nilCheck (ev_tv rfl rfl)) hS ?_
          intro hS
          refine D_pure (i := 9) (v := .pointer (some ⟨b16, o17 + 1, none⟩)) rfl (by kernel_rfl) (W_none rfl) (fun _ => Try.fa51_1 (ev_tv rfl rfl)) hS ?_
          intro hS
          refine D_only (i := 10) (by kernel_rfl) rfl ?_
          obtain ⟨hc29, hf30, H⟩ := H
          obtain ⟨w25, hw31⟩ : ∃ w25 : World, w25 = World.setCell w23 ⟨b16, o17 + 1, none⟩ (.slice x24 x24l x24c) := ⟨_, rfl⟩
          replace H := H w25 hw31
          refine O_skip (i := 10) rfl (W_none rfl) (y_store Try.type49 rfl rfl (ev_tv rfl rfl) (ev_tv rfl rfl) hc29 hf30 hw31) ?_
          refine and_keep (SS_off (by kernel_rfl) (SS_off (by kernel_rfl) SS_nil)) fun hS => ?_
          refine D_done (by kernel_rfl) ?_
          refine then_norm ?_
          refine hK23 _ _ ?_
          clear hK23
          refine c_seq ?_
          intro K32 hK32
          refine D_start Try.mixed rfl [7] ?_
          refine start_keep fun hS => ?_
          refine D_pure (i := 0) (v := .pointer (some ⟨b16, o17, none⟩)) rfl (by kernel_rfl) (W_none rfl) (fun _ => y_move (ev_tv rfl rfl)) hS ?_
          intro hS
          refine D_pure (i := 1) (v := .pointer (some ⟨b16, o17, none⟩)) rfl (by kernel_rfl) (W_none rfl) (fun _ => y_nilCheck (ev_tv rfl rfl)) hS ?_
          intro hS
          refine D_pure (i := 2) (v := .pointer (some ⟨b16, o17 + 2, none⟩)) rfl (by kernel_rfl) (W_none rfl) (fun _ => Try.fa51_2 (ev_tv rfl rfl)) hS ?_
          intro hS
          refine D_pure (i := 4) (v := .int .i64 a_n2) rfl (by kernel_rfl) (W_none rfl) (fun _ => y_move (ev_tv rfl rfl)) hS ?_
          intro hS
          refine D_pure (i := 5) (v := .pointer (some ⟨b13, 0 + 1, none⟩)) rfl (by kernel_rfl) (W_none rfl) (fun _ => Try.fa66_1 (ev_tv rfl rfl)) hS ?_
          intro hS
          obtain ⟨x26, hc33, H⟩ := H
          refine D_read (i := 3) (v := .map x26) rfl (by kernel_rfl) (W_none rfl) (fun wx => World.cell? wx ⟨b16, o17 + 2, none⟩ = some (.map x26)) hc33 (fun _ hcx => y_load Try.underlying48 rfl (ev_tv rfl rfl) hcx) hS ?_
          intro hS
          obtain ⟨x27, x27l, x27c, hc34, H⟩ := H
          refine D_read (i := 6) (v := .slice x27 x27l x27c) rfl (by kernel_rfl) (W_none rfl) (fun wx => World.cell? wx ⟨b13, 0 + 1, none⟩ = some (.slice x27 x27l x27c)) hc34 (fun _ hcx => y_load Try.underlying33 rfl (ev_tv rfl rfl) hcx) hS ?_
          intro hS
          refine D_only (i := 7) (by kernel_rfl) rfl ?_
          obtain ⟨w28, hw35, H⟩ := H
          refine O_skip (i := 7) rfl (W_none rfl) (y_mapUpdate (ev_tv rfl rfl) (ev_tv rfl rfl) (ev_tv rfl rfl) hw35) ?_
          refine and_keep (SS_off (by kernel_rfl) (SS_off (by kernel_rfl) SS_nil)) fun hS => ?_
          refine D_done (by kernel_rfl) ?_
          refine then_norm ?_
          refine hK32 _ _ ?_
          clear hK32
          refine c_seq ?_
          intro K36 hK36
          refine c_region ?_
          refine L_val (v := .pointer (some ⟨b16, o17, none⟩)) (y_move (ev_tv rfl rfl)) ?_
          refine L_val (v := .pointer (some ⟨b16, o17, none⟩)) (y_nilCheck (ev_tv rfl rfl)) ?_
          refine L_val (v := .pointer (some ⟨b16, o17 + 6, none⟩)) (Try.fa51_6 (ev_tv rfl rfl)) ?_
          obtain ⟨x29, hc37, H⟩ := H
          refine L_val (v := .int .i64 x29) (y_load Try.underlying3 rfl (ev_tv rfl rfl) hc37) ?_
          obtain ⟨r30, hr38⟩ : ∃ r30 : Int, r30 = IntKind.wrap .i64 (x29 + 1) := ⟨_, rfl⟩
          replace H := H r30 hr38
          refine L_val (v := .int .i64 r30) (y_add (ev_tv rfl rfl) ev_c hr38) ?_
          refine L_val (v := .pointer (some ⟨b16, o17, none⟩)) (y_nilCheck (ev_tv rfl rfl)) ?_
          refine L_val (v := .pointer (some ⟨b16, o17 + 6, none⟩)) (Try.fa51_6 (ev_tv rfl rfl)) ?_
          obtain ⟨hc39, hf40, H⟩ := H
          obtain ⟨w31, hw41⟩ : ∃ w31 : World, w31 = World.setCell w28 ⟨b16, o17 + 6, none⟩ (.int .i64 r30) := ⟨_, rfl⟩
          replace H := H w31 hw41
          refine L_skip (y_store Try.type3 rfl rfl (ev_tv rfl rfl) (ev_tv rfl rfl) hc39 hf40 hw41) ?_
          refine l_nil ?_
          refine then_norm ?_
          refine hK36 _ _ ?_
          clear hK36
          refine c_seq ?_
          intro K42 hK42
          refine c_region ?_
          refine L_val (v := .int .i64 0) (y_assign ev_c) ?_
          refine l_nil ?_
          refine then_norm ?_
          refine hK42 _ _ ?_
          clear hK42
          refine c_ret ?_
          exact body_1 rfl (ev_tv rfl rfl) H
        · replace H := H.2 hb15
          have hq16 : Value.bool (x7) = Value.bool false := congrArg Value.bool hb15
          refine L_val (v := .bool true) (y_not_f (ev_tv rfl hq16)) ?_
          refine L_val (v := .bool true) (y_assign (ev_tv rfl rfl)) ?_
          refine l_nil ?_
          refine then_norm ?_
          refine hK14 _ _ ?_
          clear hK14
          refine cond_t (ev_tv rfl rfl) ?_
          refine c_seq ?_
          intro K44 hK44
          refine c_region ?_
          refine L_val (v := .int .i64 0) (y_assign ev_c) ?_
          refine l_nil ?_
          refine then_norm ?_
          refine hK44 _ _ ?_
          clear hK44
          refine c_ret ?_
          refine block_ret ?_
          refine then_ret ?_
          exact body_1 rfl (ev_tv rfl rfl) H
    · replace H := H.2 hb8
      have hq9 : Value.bool (x4) = Value.bool false := congrArg Value.bool hb8
      refine L_val (v := .bool true) (y_not_f (ev_tv rfl hq9)) ?_
      refine L_val (v := .bool true) (y_assign (ev_tv rfl rfl)) ?_
      refine l_nil ?_
      refine then_norm ?_
      refine hK7 _ _ ?_
      clear hK7
      refine cond_t (ev_tv rfl rfl) ?_
      refine c_seq ?_
      intro K45 hK45
      refine c_region ?_
      refine L_val (v := .int .i64 20) (y_assign ev_c) ?_
      refine l_nil ?_
      refine then_norm ?_
      refine hK45 _ _ ?_
      clear hK45
      refine c_ret ?_
      refine block_ret ?_
      refine then_ret ?_
      exact body_1 rfl (ev_tv rfl rfl) H

/-- (parapet/buf.Cache).drop -/
def Vc27 (a_c1 : Option Addr) (a_n2 : Int) (w : World) (R : Ending → World → Prop) : Prop :=
  (∀ (b3 : Nat) (w4 : World), b3 = World.heapSize w → w4 = World.alloc w (.cells #[.int .i64 a_n2] 3) → (∃ (b5 o6 : Nat), a_c1 = some ⟨b5, o6, none⟩ ∧ (∃ x7 : Option Addr, ∃ x7l : Nat, ∃ x7c : Nat, World.cell? w4 ⟨b5, o6 + 3, none⟩ = some (.slice x7 x7l x7c) ∧ (Calls Try.prog 37 #[.slice x7 x7l x7c, .func (.func 38) #[] #[.pointer (some ⟨b3, 0, none⟩)]] w4 fun e w9 => ∃ x8 : Option Addr, ∃ x8l : Nat, ∃ x8c : Nat, e = .returned (.slice x8 x8l x8c) ∧ ((World.cell? w9 ⟨b5, o6 + 3, none⟩).isSome = true ∧ World.frozen? w9 ⟨b5, o6 + 3, none⟩ = false ∧ ∀ w11 : World, w11 = World.setCell w9 ⟨b5, o6 + 3, none⟩ (.slice x8 x8l x8c) → R (.returned (.tuple #[])) w11)))))

theorem vc27 {a_c1 : Option Addr} {a_n2 : Int} {w : World} {R : Ending → World → Prop} (H : Vc27 a_c1 a_n2 w R) : Calls Try.prog 27 #[.pointer a_c1, .int .i64 a_n2] w R := by
  unfold Vc27 at H
  refine calls_start [.pointer a_c1, .int .i64 a_n2] Try.func27 rfl Try.ntmps27 rfl ?_
  refine c_seq ?_
  intro K1 hK1
  refine c_region ?_
  obtain ⟨b3, hb2⟩ : ∃ b3 : Nat, b3 = World.heapSize w := ⟨_, rfl⟩
  obtain ⟨w4, hw3⟩ : ∃ w4 : World, w4 = World.alloc w (.cells #[.int .i64 a_n2] 3) := ⟨_, rfl⟩
  replace H := H b3 w4 hb2 hw3
  refine L_val (v := .pointer (some ⟨b3, 0, none⟩)) (y_box (ev_tv rfl rfl) rfl hb2 hw3) ?_
  refine l_nil ?_
  refine then_norm ?_
  refine hK1 _ _ ?_
  clear hK1
  refine c_region ?_
  refine L_val (v := .pointer a_c1) (y_move (ev_tv rfl rfl)) ?_
  refine L_val (v := .pointer a_c1) (y_move (ev_tv rfl rfl)) ?_
  obtain ⟨b5, o6, rfl, H⟩ := H
  refine L_val (v := .pointer (some ⟨b5, o6, none⟩)) (y_nilCheck (ev_tv rfl rfl)) ?_
  refine L_val (v := .pointer (some ⟨b5, o6 + 3, none⟩)) (Try.fa56_3 (ev_tv rfl rfl)) ?_
  obtain ⟨x7, x7l, x7c, hc4, H⟩ := H
  refine L_val (v := .slice x7 x7l x7c) (y_load Try.underlying43 rfl (ev_tv rfl rfl) hc4) ?_
  refine L_val (v := .func (.func 38) #[] #[.pointer (some ⟨b3, 0, none⟩)]) (y_makeFunc map_ev0 (map_ev1 (ev_tv rfl rfl))) ?_
  refine L_call (y_call Try.call37 (map_ev2 (ev_tv rfl rfl) (ev_tv rfl rfl)) ev_f) (Calls.mono H ?_)
  clear H
  rintro _ w9 ⟨x8, x8l, x8c, rfl, H⟩
  refine ⟨_, rfl, ?_⟩
  refine L_val (v := .pointer (some ⟨b5, o6, none⟩)) (y_nilCheck (ev_tv rfl rfl)) ?_
  refine L_val (v := .pointer (some ⟨b5, o6 + 3, none⟩)) (Try.fa56_3 (ev_tv rfl rfl)) ?_
  obtain ⟨hc5, hf6, H⟩ := H
  obtain ⟨w11, hw7⟩ : ∃ w11 : World, w11 = World.setCell w9 ⟨b5, o6 + 3, none⟩ (.slice x8 x8l x8c) := ⟨_, rfl⟩
  replace H := H w11 hw7
  refine L_skip (y_store Try.type43 rfl rfl (ev_tv rfl rfl) (ev_tv rfl rfl) hc5 hf6 hw7) ?_
  refine l_nil ?_
  refine body_norm ?_
  exact body_0 rfl H

/-- slices.Clone[[]int,int] -/
def Vc29 (a_s1 : Option Addr) (a_s1l : Nat) (a_s1c : Nat) (w : World) (R : Ending → World → Prop) : Prop :=
  (((a_s1 = none) → R (.returned (.slice none 0 0)) w) ∧ ((a_s1 ≠ none) → (∀ (b2 : Nat) (w3 : World), b2 = World.heapSize w → w3 = World.alloc w (.cells #[] 3) → (∃ x5 : Option Addr, ∃ x5l : Nat, ∃ x5c : Nat, ∃ w4 : World, (Builtin.append_ #[43, 43] 43 #[.slice (some ⟨b2, 0, none⟩) 0 0, .slice a_s1 a_s1l a_s1c]).run Try.prog w3 = .ok (.slice x5 x5l x5c) w4 ∧ R (.returned (.slice x5 x5l x5c)) w4))))

theorem vc29 {a_s1 : Option Addr} {a_s1l : Nat} {a_s1c : Nat} {w : World} {R : Ending → World → Prop} (H : Vc29 a_s1 a_s1l a_s1c w R) : Calls Try.prog 29 #[.slice a_s1 a_s1l a_s1c] w R := by
  unfold Vc29 at H
  refine calls_start [.slice a_s1 a_s1l a_s1c] Try.func29 rfl Try.ntmps29 rfl ?_
  refine c_seq ?_
  intro K1 hK1
  refine c_region ?_
  refine L_val (v := .slice none 0 0) (y_assign ev_c) ?_
  refine l_nil ?_
  refine then_norm ?_
  refine hK1 _ _ ?_
  clear hK1
  refine c_seq ?_
  intro K2 hK2
  refine c_seq ?_
  intro K3 hK3
  refine c_region ?_
  refine L_val (v := .slice a_s1 a_s1l a_s1c) (y_move (ev_tv rfl rfl)) ?_
  refine L_val (v := .bool (a_s1.isNone)) (y_sleq Try.underlying43 (ev_tv rfl rfl) ev_c) ?_
  refine l_nil ?_
  refine then_norm ?_
  refine hK3 _ _ ?_
  clear hK3
  rcases (Classical.em (a_s1 = none)) with hb4 | hb4
  · replace H := H.1 hb4
    have hq5 : Value.bool (a_s1.isNone) = Value.bool true := congrArg Value.bool (isn_t hb4)
    refine cond_t (ev_tv rfl hq5) ?_
    refine c_seq ?_
    intro K6 hK6
    refine c_region ?_
    refine L_val (v := .slice none 0 0) (y_assign ev_c) ?_
    refine l_nil ?_
    refine then_norm ?_
    refine hK6 _ _ ?_
    clear hK6
    refine c_ret ?_
    refine then_ret ?_
    exact body_1 rfl (ev_tv rfl rfl) H
  · replace H := H.2 hb4
    have hq5 : Value.bool (a_s1.isNone) = Value.bool false := congrArg Value.bool (isn_f hb4)
    refine cond_f (ev_tv rfl hq5) ?_
    refine c_skip ?_
    refine then_norm ?_
    refine hK2 _ _ ?_
    clear hK2
    refine c_seq ?_
    intro K7 hK7
    refine c_region ?_
    obtain ⟨b2, hb8⟩ : ∃ b2 : Nat, b2 = World.heapSize w := ⟨_, rfl⟩
    obtain ⟨w3, hw9⟩ : ∃ w3 : World, w3 = World.alloc w (.cells #[] 3) := ⟨_, rfl⟩
    replace H := H b2 w3 hb8 hw9
    refine L_val (v := .slice (some ⟨b2, 0, none⟩) 0 0) (y_buildSlice rfl hb8 hw9 (by kernel_rfl)) ?_
    refine L_val (v := .slice a_s1 a_s1l a_s1c) (y_move (ev_tv rfl rfl)) ?_
    obtain ⟨x5, x5l, x5c, w4, hc10, H⟩ := H
    refine L_val (v := .slice x5 x5l x5c) (y_bi_append (map_ev2 (ev_tv rfl rfl) (ev_tv rfl rfl)) hc10) ?_
    refine L_val (v := .slice x5 x5l x5c) (y_assign (ev_tv rfl rfl)) ?_
    refine l_nil ?_
    refine then_norm ?_
    refine hK7 _ _ ?_
    clear hK7
    refine c_ret ?_
    exact body_1 rfl (ev_tv rfl rfl) H

/-- (parapet/disk.Disk).does -/
def Vc30 (a_d1 : Option Addr) (w : World) (R : Ending → World → Prop) : Prop :=
  (Calls Try.prog 41 #[.pointer a_d1] w fun e w3 => ∃ x2 : Bool, e = .returned (.bool x2) ∧ (((x2 = true) → R (.returned (.bool false)) w3) ∧ ((x2 = false) → (∃ (b5 o6 : Nat), a_d1 = some ⟨b5, o6, none⟩ ∧ (∃ x7 : Bool, World.cell? w3 ⟨b5, o6 + 3, none⟩ = some (.bool x7) ∧ (((x7 = true) → (∃ x8 : Int, World.cell? w3 ⟨b5, o6 + 4, none⟩ = some (.int .i64 x8) ∧ (∀ r9 : Int, r9 = IntKind.wrap .i64 (x8 - 1) → ((World.cell? w3 ⟨b5, o6 + 4, none⟩).isSome = true ∧ World.frozen? w3 ⟨b5, o6 + 4, none⟩ = false ∧ ∀ w10 : World, w10 = World.setCell w3 ⟨b5, o6 + 4, none⟩ (.int .i64 r9) → R (.returned (.bool true)) w10)))) ∧ ((x7 = false) → R (.returned (.bool true)) w3)))))))

theorem vc30 {a_d1 : Option Addr} {w : World} {R : Ending → World → Prop} (H : Vc30 a_d1 w R) : Calls Try.prog 30 #[.pointer a_d1] w R := by
  unfold Vc30 at H
  refine calls_start [.pointer a_d1] Try.func30 rfl Try.ntmps30 rfl ?_
  refine c_seq ?_
  intro K1 hK1
  refine c_region ?_
  refine L_val (v := .bool false) (y_assign ev_c) ?_
  refine l_nil ?_
  refine then_norm ?_
  refine hK1 _ _ ?_
  clear hK1
  refine c_seq ?_
  intro K2 hK2
  refine c_seq ?_
  intro K3 hK3
  refine c_region ?_
  refine L_val (v := .pointer a_d1) (y_move (ev_tv rfl rfl)) ?_
  refine L_call (y_call Try.call41 (map_ev1 (ev_tv rfl rfl)) ev_f) (Calls.mono H ?_)
  clear H
  rintro _ w3 ⟨x2, rfl, H⟩
  refine ⟨_, rfl, ?_⟩
  refine l_nil ?_
  refine then_norm ?_
  refine hK3 _ _ ?_
  clear hK3
  rcases Bool.eq_false_or_eq_true x2 with hb4 | hb4
  · replace H := H.1 hb4
    have hq5 : Value.bool (x2) = Value.bool true := congrArg Value.bool hb4
    refine cond_t (ev_tv rfl hq5) ?_
    refine c_seq ?_
    intro K6 hK6
    refine c_region ?_
    refine L_val (v := .bool false) (y_assign ev_c) ?_
    refine l_nil ?_
    refine then_norm ?_
    refine hK6 _ _ ?_
    clear hK6
    refine c_ret ?_
    refine then_ret ?_
    exact body_1 rfl (ev_tv rfl rfl) H
  · replace H := H.2 hb4
    have hq5 : Value.bool (x2) = Value.bool false := congrArg Value.bool hb4
    refine cond_f (ev_tv rfl hq5) ?_
    refine c_skip ?_
    refine then_norm ?_
    refine hK2 _ _ ?_
    clear hK2
    refine c_seq ?_
    intro K7 hK7
    refine c_seq ?_
    intro K8 hK8
    refine c_region ?_
    refine L_val (v := .pointer a_d1) (y_move (ev_tv rfl rfl)) ?_
    obtain ⟨b5, o6, rfl, H⟩ := H
    refine L_val (v := .pointer (some ⟨b5, o6, none⟩)) (y_nilCheck (ev_tv rfl rfl)) ?_
    refine L_val (v := .pointer (some ⟨b5, o6 + 3, none⟩)) (Try.fa51_3 (ev_tv rfl rfl)) ?_
    obtain ⟨x7, hc9, H⟩ := H
    refine L_val (v := .bool x7) (y_load Try.underlying4 rfl (ev_tv rfl rfl) hc9) ?_
    refine l_nil ?_
    refine then_norm ?_
    refine hK8 _ _ ?_
    clear hK8
    rcases Bool.eq_false_or_eq_true x7 with hb10 | hb10
    · replace H := H.1 hb10
      have hq11 : Value.bool (x7) = Value.bool true := congrArg Value.bool hb10
      refine cond_t (ev_tv rfl hq11) ?_
      refine c_region ?_
      refine L_val (v := .pointer (some ⟨b5, o6, none⟩)) (y_move (ev_tv rfl rfl)) ?_
      refine L_val (v := .pointer (some ⟨b5, o6, none⟩)) (y_nilCheck (ev_tv rfl rfl)) ?_
      refine L_val (v := .pointer (some ⟨b5, o6 + 4, none⟩)) (Try.fa51_4 (ev_tv rfl rfl)) ?_
      obtain ⟨x8, hc12, H⟩ := H
      refine L_val (v := .int .i64 x8) (y_load Try.underlying3 rfl (ev_tv rfl rfl) hc12) ?_
      obtain ⟨r9, hr13⟩ : ∃ r9 : Int, r9 = IntKind.wrap .i64 (x8 - 1) := ⟨_, rfl⟩
      replace H := H r9 hr13
      refine L_val (v := .int .i64 r9) (y_sub (ev_tv rfl rfl) ev_c hr13) ?_
      refine L_val (v := .pointer (some ⟨b5, o6, none⟩)) (y_nilCheck (ev_tv rfl rfl)) ?_
      refine L_val (v := .pointer (some ⟨b5, o6 + 4, none⟩)) (Try.fa51_4 (ev_tv rfl rfl)) ?_
      obtain ⟨hc14, hf15, H⟩ := H
      obtain ⟨w10, hw16⟩ : ∃ w10 : World, w10 = World.setCell w3 ⟨b5, o6 + 4, none⟩ (.int .i64 r9) := ⟨_, rfl⟩
      replace H := H w10 hw16
      refine L_skip (y_store Try.type3 rfl rfl (ev_tv rfl rfl) (ev_tv rfl rfl) hc14 hf15 hw16) ?_
      refine l_nil ?_
      refine then_norm ?_
      refine hK7 _ _ ?_
      clear hK7
      refine c_seq ?_
      intro K17 hK17
      refine c_region ?_
      refine L_val (v := .bool true) (y_assign ev_c) ?_
      refine l_nil ?_
      refine then_norm ?_
      refine hK17 _ _ ?_
      clear hK17
      refine c_ret ?_
      exact body_1 rfl (ev_tv rfl rfl) H
    · replace H := H.2 hb10
      have hq11 : Value.bool (x7) = Value.bool false := congrArg Value.bool hb10
      refine cond_f (ev_tv rfl hq11) ?_
      refine c_skip ?_
      refine then_norm ?_
      refine hK7 _ _ ?_
      clear hK7
      refine c_seq ?_
      intro K18 hK18
      refine c_region ?_
      refine L_val (v := .bool true) (y_assign ev_c) ?_
      refine l_nil ?_
      refine then_norm ?_
      refine hK18 _ _ ?_
      clear hK18
      refine c_ret ?_
      exact body_1 rfl (ev_tv rfl rfl) H

/-- (parapet/disk.Disk).sector -/
def Vc31 (a_d1 : Option Addr) (a_n2 : Int) (w : World) (R : Ending → World → Prop) : Prop :=
  (∃ (b3 o4 : Nat), a_d1 = some ⟨b3, o4, none⟩ ∧ (∃ x5 : Option Addr, ∃ x5l : Nat, ∃ x5c : Nat, World.cell? w ⟨b3, o4, none⟩ = some (.slice x5 x5l x5c) ∧ (∀ r6 : Int, r6 = IntKind.wrap .i64 (a_n2 * 512) → (∀ r7 : Int, r7 = IntKind.wrap .i64 (a_n2 + 1) → (∀ r8 : Int, r8 = IntKind.wrap .i64 (r7 * 512) → ((0 : Int) ≤ r6 ∧ (r6 : Int) ≤ r8 ∧ r8 ≤ ((x5c : Nat) : Int) ∧ ∀ a9 : Option Addr, a9 = subA x5 1 x5c (r6 : Int).toNat → R (.returned (.slice a9 ((r8 : Int).toNat - (r6 : Int).toNat) (x5c - (r6 : Int).toNat))) w))))))

theorem vc31 {a_d1 : Option Addr} {a_n2 : Int} {w : World} {R : Ending → World → Prop} (H : Vc31 a_d1 a_n2 w R) : Calls Try.prog 31 #[.pointer a_d1, .int .i64 a_n2] w R := by
  unfold Vc31 at H
  refine calls_start [.pointer a_d1, .int .i64 a_n2] Try.func31 rfl Try.ntmps31 rfl ?_
  refine c_seq ?_
  intro K1 hK1
  refine c_region ?_
  refine L_val (v := .slice none 0 0) (y_assign ev_c) ?_
  refine l_nil ?_
  refine then_norm ?_
  refine hK1 _ _ ?_
  clear hK1
  refine c_seq ?_
  intro K2 hK2
  refine c_region ?_
  refine L_val (v := .pointer a_d1) (y_move (ev_tv rfl rfl)) ?_
  obtain ⟨b3, o4, rfl, H⟩ := H
  refine L_val (v := .pointer (some ⟨b3, o4, none⟩)) (y_nilCheck (ev_tv rfl rfl)) ?_
  refine L_val (v := .pointer (some ⟨b3, o4, none⟩)) (Try.fa51_0 (ev_tv rfl rfl)) ?_
  obtain ⟨x5, x5l, x5c, hc3, H⟩ := H
  refine L_val (v := .slice x5 x5l x5c) (y_load Try.underlying33 rfl (ev_tv rfl rfl) hc3) ?_
  refine L_val (v := .int .i64 a_n2) (y_move (ev_tv rfl rfl)) ?_
  obtain ⟨r6, hr4⟩ : ∃ r6 : Int, r6 = IntKind.wrap .i64 (a_n2 * 512) := ⟨_, rfl⟩
  replace H := H r6 hr4
  refine L_val (v := .int .i64 r6) (y_mul (ev_tv rfl rfl) ev_c hr4) ?_
  refine L_val (v := .int .i64 a_n2) (y_move (ev_tv rfl rfl)) ?_
  obtain ⟨r7, hr5⟩ : ∃ r7 : Int, r7 = IntKind.wrap .i64 (a_n2 + 1) := ⟨_, rfl⟩
  replace H := H r7 hr5
  refine L_val (v := .int .i64 r7) (y_add (ev_tv rfl rfl) ev_c hr5) ?_
  obtain ⟨r8, hr6⟩ : ∃ r8 : Int, r8 = IntKind.wrap .i64 (r7 * 512) := ⟨_, rfl⟩
  replace H := H r8 hr6
  refine L_val (v := .int .i64 r8) (y_mul (ev_tv rfl rfl) ev_c hr6) ?_
  obtain ⟨hi8, hi9, hi10, H⟩ := H
  obtain ⟨a9, ha7⟩ : ∃ a9 : Option Addr, a9 = subA x5 1 x5c (r6 : Int).toNat := ⟨_, rfl⟩
  replace H := H a9 ha7
  refine L_val (v := .slice a9 ((r8 : Int).toNat - (r6 : Int).toNat) (x5c - (r6 : Int).toNat)) (y_sliceLH Try.underlying33 Try.type5 rfl (ev_tv rfl rfl) (ev_tv rfl rfl) (ev_tv rfl rfl) hi8 hi9 hi10 ha7) ?_
  refine L_val (v := .slice a9 ((r8 : Int).toNat - (r6 : Int).toNat) (x5c - (r6 : Int).toNat)) (y_assign (ev_tv rfl rfl)) ?_
  refine l_nil ?_
  refine then_norm ?_
  refine hK2 _ _ ?_
  clear hK2
  refine c_ret ?_
  exact body_1 rfl (ev_tv rfl rfl) H

/-- (parapet/disk.Disk).clear -/
def Vc32 (a_d1 : Option Addr) (w : World) (R : Ending → World → Prop) : Prop :=
  (∃ (b2 o3 : Nat), a_d1 = some ⟨b2, o3, none⟩ ∧ ((World.cell? w ⟨b2, o3 + 1, none⟩).isSome = true ∧ World.frozen? w ⟨b2, o3 + 1, none⟩ = false ∧ ∀ w4 : World, w4 = World.setCell w ⟨b2, o3 + 1, none⟩ (.slice none 0 0) → (∀ (b5 : Nat) (w6 : World), b5 = World.heapSize w4 → w6 = World.alloc w4 (.map #[] 0) → ((World.cell? w6 ⟨b2, o3 + 2, none⟩).isSome = true ∧ World.frozen? w6 ⟨b2, o3 + 2, none⟩ = false ∧ ∀ w7 : World, w7 = World.setCell w6 ⟨b2, o3 + 2, none⟩ (.map (some b5)) → R (.returned (.tuple #[])) w7))))

theorem vc32 {a_d1 : Option Addr} {w : World} {R : Ending → World → Prop} (H : Vc32 a_d1 w R) : Calls Try.prog 32 #[.pointer a_d1] w R := by
  unfold Vc32 at H
  refine calls_start [.pointer a_d1] Try.func32 rfl Try.ntmps32 rfl ?_
  refine c_seq ?_
  intro K1 hK1
  refine c_region ?_
  refine L_val (v := .pointer a_d1) (y_move (ev_tv rfl rfl)) ?_
  obtain ⟨b2, o3, rfl, H⟩ := H
  refine L_val (v := .pointer (some ⟨b2, o3, none⟩)) (y_nilCheck (ev_tv rfl rfl)) ?_
  refine L_val (v := .pointer (some ⟨b2, o3 + 1, none⟩)) (Try.fa51_1 (ev_tv rfl rfl)) ?_
  obtain ⟨hc2, hf3, H⟩ := H
  obtain ⟨w4, hw4⟩ : ∃ w4 : World, w4 = World.setCell w ⟨b2, o3 + 1, none⟩ (.slice none 0 0) := ⟨_, rfl⟩
  replace H := H w4 hw4
  refine L_skip (y_store Try.type49 rfl rfl (ev_tv rfl rfl) ev_c hc2 hf3 hw4) ?_
  refine l_nil ?_
  refine then_norm ?_
  refine hK1 _ _ ?_
  clear hK1
  refine c_region ?_
  refine L_val (v := .pointer (some ⟨b2, o3, none⟩)) (y_move (ev_tv rfl rfl)) ?_
  obtain ⟨b5, hb5⟩ : ∃ b5 : Nat, b5 = World.heapSize w4 := ⟨_, rfl⟩
  obtain ⟨w6, hw6⟩ : ∃ w6 : World, w6 = World.alloc w4 (.map #[] 0) := ⟨_, rfl⟩
  replace H := H b5 w6 hb5 hw6
  refine L_val (v := .map (some b5)) (y_makeMap hb5 hw6) ?_
  refine L_val (v := .pointer (some ⟨b2, o3, none⟩)) (y_nilCheck (ev_tv rfl rfl)) ?_
  refine L_val (v := .pointer (some ⟨b2, o3 + 2, none⟩)) (Try.fa51_2 (ev_tv rfl rfl)) ?_
  obtain ⟨hc7, hf8, H⟩ := H
  obtain ⟨w7, hw9⟩ : ∃ w7 : World, w7 = World.setCell w6 ⟨b2, o3 + 2, none⟩ (.map (some b5)) := ⟨_, rfl⟩
  replace H := H w7 hw9
  refine L_skip (y_store Try.type48 rfl rfl (ev_tv rfl rfl) (ev_tv rfl rfl) hc7 hf8 hw9) ?_
  refine l_nil ?_
  refine body_norm ?_
  exact body_0 rfl H

/-- (parapet/disk.Disk).is -/
def Vc33 (a_d1 : Option Addr) (a_n2 : Int) (w : World) (R : Ending → World → Prop) : Prop :=
  ((((0 : Int) ≤ a_n2) → (Calls Try.prog 24 #[.pointer a_d1] w fun e w4 => ∃ x3 : Int, e = .returned (.int .i64 x3) ∧ R (.returned (.bool (decide ((a_n2 : Int) < x3)))) w4)) ∧ ((¬ ((0 : Int) ≤ a_n2)) → R (.returned (.bool false)) w))

theorem vc33 {a_d1 : Option Addr} {a_n2 : Int} {w : World} {R : Ending → World → Prop} (H : Vc33 a_d1 a_n2 w R) : Calls Try.prog 33 #[.pointer a_d1, .int .i64 a_n2] w R := by
  unfold Vc33 at H
  refine calls_start [.pointer a_d1, .int .i64 a_n2] Try.func33 rfl Try.ntmps33 rfl ?_
  refine c_seq ?_
  intro K1 hK1
  refine c_region ?_
  refine L_val (v := .bool false) (y_assign ev_c) ?_
  refine l_nil ?_
  refine then_norm ?_
  refine hK1 _ _ ?_
  clear hK1
  refine c_seq ?_
  intro K2 hK2
  refine c_region ?_
  refine L_val (v := .int .i64 a_n2) (y_move (ev_tv rfl rfl)) ?_
  refine L_val (v := .bool (decide ((0 : Int) ≤ a_n2))) (y_geq (ev_tv rfl rfl) ev_c) ?_
  refine L_val (v := .bool (decide ((0 : Int) ≤ a_n2))) (y_move (ev_tv rfl rfl)) ?_
  rcases (Decidable.em ((0 : Int) ≤ a_n2)) with hb3 | hb3
  · replace H := H.1 hb3
    have hq4 : Value.bool (decide ((0 : Int) ≤ a_n2)) = Value.bool true := congrArg Value.bool (decide_eq_true hb3)
    refine G_val (dj := 7) rfl rfl hq4 (v := .int .i64 a_n2) (y_move (ev_tv rfl rfl)) ?_
    refine G_val (dj := 7) rfl rfl hq4 (v := .pointer a_d1) (y_move (ev_tv rfl rfl)) ?_
    refine G_call (dj := 7) rfl rfl hq4 (y_call Try.call24 (map_ev1 (ev_tv rfl rfl)) ev_f) (Calls.mono H ?_)
    clear H
    rintro _ w4 ⟨x3, rfl, H⟩
    refine ⟨_, rfl, ?_⟩
    refine G_val (dj := 7) rfl rfl hq4 (v := .bool (decide ((a_n2 : Int) < x3))) (y_lss (ev_tv rfl rfl) (ev_tv rfl rfl)) ?_
    refine L_val (v := .bool (decide ((a_n2 : Int) < x3))) (y_pick_t (ev_tv rfl hq4) (ev_tv rfl rfl)) ?_
    refine L_val (v := .bool (decide ((a_n2 : Int) < x3))) (y_assign (ev_tv rfl rfl)) ?_
    refine l_nil ?_
    refine then_norm ?_
    refine hK2 _ _ ?_
    clear hK2
    refine c_ret ?_
    exact body_1 rfl (ev_tv rfl rfl) H
  · replace H := H.2 hb3
    have hq4 : Value.bool (decide ((0 : Int) ≤ a_n2)) = Value.bool false := congrArg Value.bool (decide_eq_false hb3)
    refine G_not (b' := false) (dj := 7) rfl rfl hq4 rfl ?_
    refine G_not (b' := false) (dj := 7) rfl rfl hq4 rfl ?_
    refine G_not (b' := false) (dj := 7) rfl rfl hq4 rfl ?_
    refine G_not (b' := false) (dj := 7) rfl rfl hq4 rfl ?_
    refine L_val (v := .bool false) (y_pick_f (ev_tv rfl hq4) ev_c) ?_
    refine L_val (v := .bool false) (y_assign (ev_tv rfl rfl)) ?_
    refine l_nil ?_
    refine then_norm ?_
    refine hK2 _ _ ?_
    clear hK2
    refine c_ret ?_
    exact body_1 rfl (ev_tv rfl rfl) H

/-- slices.IndexFunc[[]int,int] -/
def Vc34 (a_s1 : Option Addr) (a_s1l : Nat) (a_s1c : Nat) (a_f2 : Value) (w : World) (R : Ending → World → Prop) : Prop :=
  (∃ I4 : Nat → Int → World → Prop, (∃ m, I4 m 0 w) ∧ ∀ (m4 : Nat) (v3 : Int) (w5 : World), I4 m4 v3 w5 → ((((v3 : Int) < ((a_s1l : Nat) : Int)) → (∃ (b6 o7 : Nat), a_s1 = some ⟨b6, o7, none⟩ ∧ ((0 : Int) ≤ v3 ∧ v3 < ((a_s1l : Nat) : Int) ∧ (∃ x8 : Int, World.cell? w5 ⟨b6, o7 + (v3 : Int).toNat, none⟩ = some (.int .i64 x8) ∧ (Invoke Try.prog a_f2 #[.int .i64 x8] w5 fun e w10 => ∃ x9 : Bool, e = .returned (.bool x9) ∧ (((x9 = true) → R (.returned (.int .i64 v3)) w10) ∧ ((x9 = false) → (∀ r12 : Int, r12 = IntKind.wrap .i64 (v3 + 1) → (∃ m13, m13 < m4 ∧ I4 m13 r12 w10))))))))) ∧ ((¬ ((v3 : Int) < ((a_s1l : Nat) : Int))) → R (.returned (.int .i64 (-1))) w5)))

theorem vc34 {a_s1 : Option Addr} {a_s1l : Nat} {a_s1c : Nat} {a_f2 : Value} {w : World} {R : Ending → World → Prop} (H : Vc34 a_s1 a_s1l a_s1c a_f2 w R) : Calls Try.prog 34 #[.slice a_s1 a_s1l a_s1c, a_f2] w R := by
  unfold Vc34 at H
  refine calls_start [.slice a_s1 a_s1l a_s1c, a_f2] Try.func34 rfl Try.ntmps34 rfl ?_
  refine c_seq ?_
  intro K1 hK1
  refine c_region ?_
  refine L_val (v := .int .i64 0) (y_assign ev_c) ?_
  refine l_nil ?_
  refine then_norm ?_
  refine hK1 _ _ ?_
  clear hK1
  refine c_seq ?_
  intro K2 hK2
  refine c_seq ?_
  intro K3 hK3
  refine c_region ?_
  refine L_val (v := .slice a_s1 a_s1l a_s1c) (y_move (ev_tv rfl rfl)) ?_
  refine L_val (v := .int .i64 ((a_s1l : Nat) : Int)) (y_len Try.underlying43 rfl (map_ev1 (ev_tv rfl rfl))) ?_
  refine L_val (v := .int .i64 0) (y_move ev_c) ?_
  refine l_nil ?_
  refine then_norm ?_
  refine hK3 _ _ ?_
  clear hK3
  refine c_block ?_
  obtain ⟨I4, ⟨m8, HI9⟩, H⟩ := H
  refine loop_fr ([(4, 5), (8, 18)]) (fun m ff ww => ∃ (v3 : Int), ff 8 = (.int .i64 v3 : Value) ∧ I4 m v3 ww) m8 ⟨0, rfl, HI9⟩ ?_
  rintro m4 f5 w5 hag6 ⟨v3, hs10, HI7⟩
  replace H := H m4 v3 w5 HI7
  refine c_seq ?_
  intro K11 hK11
  refine c_region ?_
  refine L_val (v := .bool (decide ((v3 : Int) < ((a_s1l : Nat) : Int)))) (y_lss (ev_tv rfl hs10) (ev_tv rfl ((hag6 7 rfl).trans rfl))) ?_
  refine l_nil ?_
  refine then_norm ?_
  refine hK11 _ _ ?_
  clear hK11
  refine c_seq ?_
  intro K12 hK12
  rcases (Decidable.em ((v3 : Int) < ((a_s1l : Nat) : Int))) with hb13 | hb13
  · replace H := H.1 hb13
    have hq14 : Value.bool (decide ((v3 : Int) < ((a_s1l : Nat) : Int))) = Value.bool true := congrArg Value.bool (decide_eq_true hb13)
    refine cond_t (ev_tv rfl hq14) ?_
    refine c_skip ?_
    refine then_norm ?_
    refine hK12 _ _ ?_
    clear hK12
    refine c_seq ?_
    intro K15 hK15
    refine c_block ?_
    refine c_seq ?_
    intro K16 hK16
    refine c_region ?_
    refine L_val (v := .int .i64 v3) (y_move (ev_tv rfl hs10)) ?_
    refine L_val (v := .int .i64 v3) (y_assign (ev_tv rfl rfl)) ?_
    refine l_nil ?_
    refine then_norm ?_
    refine hK16 _ _ ?_
    clear hK16
    refine c_seq ?_
    intro K17 hK17
    refine c_region ?_
    refine L_val (v := a_f2) (y_move (ev_tv rfl ((hag6 1 rfl).trans rfl))) ?_
    refine L_val (v := .slice a_s1 a_s1l a_s1c) (y_move (ev_tv rfl ((hag6 0 rfl).trans rfl))) ?_
    refine L_val (v := .int .i64 v3) (y_move (ev_tv rfl rfl)) ?_
    obtain ⟨b6, o7, rfl, H⟩ := H
    obtain ⟨hi18, hi19, H⟩ := H
    refine L_val (v := .pointer (some ⟨b6, o7 + (v3 : Int).toNat, none⟩)) (y_ix1 Try.underlying43 Try.type3 rfl (ev_tv rfl rfl) (ev_tv rfl rfl) hi18 hi19) ?_
    obtain ⟨x8, hc20, H⟩ := H
    refine L_val (v := .int .i64 x8) (y_load Try.underlying3 rfl (ev_tv rfl rfl) hc20) ?_
    obtain ⟨khk26, firsthk26, caphk26, hi27, hk26, H⟩ := H
    refine L_call (y_callv hk26 (map_ev1 (ev_tv rfl rfl)) ((ev_tv rfl rfl).trans hi27)) (Calls.mono H ?_)
    clear H
    rintro _ w10 ⟨x9, rfl, H⟩
    refine ⟨_, rfl, ?_⟩
    refine l_nil ?_
    refine then_norm ?_
    refine hK17 _ _ ?_
    clear hK17
    rcases Bool.eq_false_or_eq_true x9 with hb21 | hb21
    · replace H := H.1 hb21
      have hq22 : Value.bool (x9) = Value.bool true := congrArg Value.bool hb21
      refine cond_t (ev_tv rfl hq22) ?_
      refine c_seq ?_
      intro K23 hK23
      refine c_region ?_
      refine L_val (v := .int .i64 v3) (y_move (ev_tv rfl rfl)) ?_
      refine L_val (v := .int .i64 v3) (y_assign (ev_tv rfl rfl)) ?_
      refine l_nil ?_
      refine then_norm ?_
      refine hK23 _ _ ?_
      clear hK23
      refine c_ret ?_
      refine block_ret ?_
      refine then_ret ?_
      refine then_ret ?_
      refine block_ret ?_
      refine then_ret ?_
      exact body_1 rfl (ev_tv rfl rfl) H
    · replace H := H.2 hb21
      have hq22 : Value.bool (x9) = Value.bool false := congrArg Value.bool hb21
      refine cond_f (ev_tv rfl hq22) ?_
      refine c_skip ?_
      refine block_norm ?_
      refine then_norm ?_
      refine hK15 _ _ ?_
      clear hK15
      refine c_region ?_
      obtain ⟨r12, hr24⟩ : ∃ r12 : Int, r12 = IntKind.wrap .i64 (v3 + 1) := ⟨_, rfl⟩
      replace H := H r12 hr24
      refine L_val (v := .int .i64 r12) (y_add (ev_tv rfl hs10) ev_c hr24) ?_
      refine L_val (v := .int .i64 r12) (y_move (ev_tv rfl rfl)) ?_
      refine l_nil ?_
      refine then_norm ?_
      obtain ⟨m13, hm25, H⟩ := H
      exact ⟨_, rfl, (by repeat (first | exact agree_refl | exact hag6 | refine agree_upd rfl ?_ | refine agree_via hag6 rfl ?_)), m13, hm25, _, rfl, H⟩
  · replace H := H.2 hb13
    have hq14 : Value.bool (decide ((v3 : Int) < ((a_s1l : Nat) : Int))) = Value.bool false := congrArg Value.bool (decide_eq_false hb13)
    refine cond_f (ev_tv rfl hq14) ?_
    refine c_exit ?_
    refine then_exit ?_
    refine then_exit ?_
    refine block_hit ?_
    refine then_norm ?_
    refine hK2 _ _ ?_
    clear hK2
    refine c_seq ?_
    intro K28 hK28
    refine c_region ?_
    refine L_val (v := .int .i64 (-1)) (y_assign ev_c) ?_
    refine l_nil ?_
    refine then_norm ?_
    refine hK28 _ _ ?_
    clear hK28
    refine c_ret ?_
    exact body_1 rfl (ev_tv rfl rfl) H

/-- (parapet/buf.Cache).makeRoom$1 -/
def Vc35 (a_n1 : Int) (fv2 : Option Addr) (w : World) (R : Ending → World → Prop) : Prop :=
  (∃ (b3 o4 : Nat), fv2 = some ⟨b3, o4, none⟩ ∧ (∃ x5 : Option Addr, World.cell? w ⟨b3, o4, none⟩ = some (.pointer x5) ∧ (∃ (b6 o7 : Nat), x5 = some ⟨b6, o7, none⟩ ∧ (∃ x8 : Option Nat, World.cell? w ⟨b6, o7 + 2, none⟩ = some (.map x8) ∧ (∃ x9 : Option Addr, (Instr.lookup 52 (.map x8) (.int .i64 a_n1) false).run Try.prog w = .ok (.pointer x9) w ∧ (∃ (b10 o11 : Nat), x9 = some ⟨b10, o11, none⟩ ∧ (∃ x12 : Bool, World.cell? w ⟨b10, o11 + 1, none⟩ = some (.bool x12) ∧ (((x12 = true) → R (.returned (.bool false)) w) ∧ ((x12 = false) → R (.returned (.bool true)) w)))))))))

theorem vc35 {a_n1 : Int} {fv2 : Option Addr} {w : World} {R : Ending → World → Prop} (H : Vc35 a_n1 fv2 w R) : Calls Try.prog 35 #[.int .i64 a_n1, .pointer fv2] w R := by
  unfold Vc35 at H
  refine calls_start [.int .i64 a_n1, .pointer fv2] Try.func35 rfl Try.ntmps35 rfl ?_
  refine c_seq ?_
  intro K1 hK1
  refine c_region ?_
  refine L_val (v := .bool false) (y_assign ev_c) ?_
  refine l_nil ?_
  refine then_norm ?_
  refine hK1 _ _ ?_
  clear hK1
  refine c_seq ?_
  intro K2 hK2
  refine c_region ?_
  obtain ⟨b3, o4, rfl, H⟩ := H
  obtain ⟨x5, hc3, H⟩ := H
  refine L_val (v := .pointer x5) (y_load Try.underlying28 rfl (ev_tv rfl rfl) hc3) ?_
  obtain ⟨b6, o7, rfl, H⟩ := H
  refine L_val (v := .pointer (some ⟨b6, o7, none⟩)) (y_nilCheck (ev_tv rfl rfl)) ?_
  refine L_val (v := .pointer (some ⟨b6, o7 + 2, none⟩)) (Try.fa56_2 (ev_tv rfl rfl)) ?_
  obtain ⟨x8, hc4, H⟩ := H
  refine L_val (v := .map x8) (y_load Try.underlying52 rfl (ev_tv rfl rfl) hc4) ?_
  refine L_val (v := .int .i64 a_n1) (y_move (ev_tv rfl rfl)) ?_
  obtain ⟨x9, hc5, H⟩ := H
  refine L_val (v := .pointer x9) (y_lookup (ev_tv rfl rfl) (ev_tv rfl rfl) hc5) ?_
  obtain ⟨b10, o11, rfl, H⟩ := H
  refine L_val (v := .pointer (some ⟨b10, o11, none⟩)) (y_nilCheck (ev_tv rfl rfl)) ?_
  refine L_val (v := .pointer (some ⟨b10, o11 + 1, none⟩)) (Try.fa62_1 (ev_tv rfl rfl)) ?_
  obtain ⟨x12, hc6, H⟩ := H
  refine L_val (v := .bool x12) (y_load Try.underlying4 rfl (ev_tv rfl rfl) hc6) ?_
  rcases Bool.eq_false_or_eq_true x12 with hb7 | hb7
  · replace H := H.1 hb7
    have hq8 : Value.bool (x12) = Value.bool true := congrArg Value.bool hb7
    refine L_val (v := .bool false) (y_not_t (ev_tv rfl hq8)) ?_
    refine L_val (v := .bool false) (y_assign (ev_tv rfl rfl)) ?_
    refine l_nil ?_
    refine then_norm ?_
    refine hK2 _ _ ?_
    clear hK2
    refine c_ret ?_
    exact body_1 rfl (ev_tv rfl rfl) H
  · replace H := H.2 hb7
    have hq8 : Value.bool (x12) = Value.bool false := congrArg Value.bool hb7
    refine L_val (v := .bool true) (y_not_f (ev_tv rfl hq8)) ?_
    refine L_val (v := .bool true) (y_assign (ev_tv rfl rfl)) ?_
    refine l_nil ?_
    refine then_norm ?_
    refine hK2 _ _ ?_
    clear hK2
    refine c_ret ?_
    exact body_1 rfl (ev_tv rfl rfl) H

/-- slices.Delete[[]int,int] -/
def Vc36 (a_s1 : Option Addr) (a_s1l : Nat) (a_s1c : Nat) (a_i2 : Int) (a_j3 : Int) (w : World) (R : Ending → World → Prop) : Prop :=
  ((0 : Int) ≤ a_i2 ∧ (a_i2 : Int) ≤ a_j3 ∧ (a_j3 : Int) ≤ ((a_s1l : Nat) : Int) ∧ ((a_s1l : Nat) : Int) ≤ ((a_s1c : Nat) : Int) ∧ ∀ a4 : Option Addr, a4 = subA a_s1 1 (((a_s1l : Nat) : Int) : Int).toNat (a_i2 : Int).toNat → ((((a_i2 : Int) = a_j3) → R (.returned (.slice a_s1 a_s1l a_s1c)) w) ∧ ((¬ ((a_i2 : Int) = a_j3)) → ((0 : Int) ≤ a_i2 ∧ a_i2 ≤ ((a_s1c : Nat) : Int) ∧ ∀ a5 : Option Addr, a5 = a_s1 → ((0 : Int) ≤ a_j3 ∧ a_j3 ≤ ((a_s1l : Nat) : Int) ∧ ∀ a6 : Option Addr, a6 = subA a_s1 1 a_s1c (a_j3 : Int).toNat → (∃ x8 : Option Addr, ∃ x8l : Nat, ∃ x8c : Nat, ∃ w7 : World, (Builtin.append_ #[43, 43] 43 #[.slice a5 ((a_i2 : Int).toNat) a_s1c, .slice a6 (a_s1l - (a_j3 : Int).toNat) (a_s1c - (a_j3 : Int).toNat)]).run Try.prog (w.drew) = .ok (.slice x8 x8l x8c) w7 ∧ ((0 : Int) ≤ ((x8l : Nat) : Int) ∧ (((x8l : Nat) : Int) : Int) ≤ ((a_s1l : Nat) : Int) ∧ ((a_s1l : Nat) : Int) ≤ ((x8c : Nat) : Int) ∧ ∀ a9 : Option Addr, a9 = subA x8 1 x8c (((x8l : Nat) : Int) : Int).toNat → (∃ w10 : World, (Builtin.clear_ #[43] 0 #[.slice a9 ((((a_s1l : Nat) : Int) : Int).toNat - (((x8l : Nat) : Int) : Int).toNat) (x8c - (((x8l : Nat) : Int) : Int).toNat)]).run Try.prog w7 = .ok (.tuple #[]) w10 ∧ R (.returned (.slice x8 x8l x8c)) w10))))))))

theorem vc36 {a_s1 : Option Addr} {a_s1l : Nat} {a_s1c : Nat} {a_i2 : Int} {a_j3 : Int} {w : World} {R : Ending → World → Prop} (H : Vc36 a_s1 a_s1l a_s1c a_i2 a_j3 w R) : Calls Try.prog 36 #[.slice a_s1 a_s1l a_s1c, .int .i64 a_i2, .int .i64 a_j3] w R := by
  unfold Vc36 at H
  refine calls_start [.slice a_s1 a_s1l a_s1c, .int .i64 a_i2, .int .i64 a_j3] Try.func36 rfl Try.ntmps36 rfl ?_
  refine c_seq ?_
  intro K1 hK1
  refine c_region ?_
  refine L_val (v := .slice none 0 0) (y_assign ev_c) ?_
  refine l_nil ?_
  refine then_norm ?_
  refine hK1 _ _ ?_
  clear hK1
  refine c_seq ?_
  intro K2 hK2
  refine c_region ?_
  refine L_val (v := .slice a_s1 a_s1l a_s1c) (y_move (ev_tv rfl rfl)) ?_
  refine L_val (v := .int .i64 a_i2) (y_move (ev_tv rfl rfl)) ?_
  refine L_val (v := .int .i64 a_j3) (y_move (ev_tv rfl rfl)) ?_
  refine L_val (v := .slice a_s1 a_s1l a_s1c) (y_move (ev_tv rfl rfl)) ?_
  refine L_val (v := .int .i64 ((a_s1l : Nat) : Int)) (y_len Try.underlying43 rfl (map_ev1 (ev_tv rfl rfl))) ?_
  obtain ⟨hi4, hi5, hi6, hi7, H⟩ := H
  obtain ⟨a4, ha3⟩ : ∃ a4 : Option Addr, a4 = subA a_s1 1 (((a_s1l : Nat) : Int) : Int).toNat (a_i2 : Int).toNat := ⟨_, rfl⟩
  replace H := H a4 ha3
  refine L_val (v := .slice a4 ((a_j3 : Int).toNat - (a_i2 : Int).toNat) ((((a_s1l : Nat) : Int) : Int).toNat - (a_i2 : Int).toNat)) (y_sliceLHM Try.underlying43 Try.type3 rfl (ev_tv rfl rfl) (ev_tv rfl rfl) (ev_tv rfl rfl) (ev_tv rfl rfl) hi4 hi5 hi6 hi7 ha3) ?_
  refine l_nil ?_
  refine then_norm ?_
  refine hK2 _ _ ?_
  clear hK2
  refine c_seq ?_
  intro K8 hK8
  refine c_seq ?_
  intro K9 hK9
  refine c_region ?_
  refine L_val (v := .int .i64 a_i2) (y_move (ev_tv rfl rfl)) ?_
  refine L_val (v := .int .i64 a_j3) (y_move (ev_tv rfl rfl)) ?_
  refine L_val (v := .bool (decide ((a_i2 : Int) = a_j3))) (y_ieq (ev_tv rfl rfl) (ev_tv rfl rfl)) ?_
  refine l_nil ?_
  refine then_norm ?_
  refine hK9 _ _ ?_
  clear hK9
  rcases (Decidable.em ((a_i2 : Int) = a_j3)) with hb10 | hb10
  · replace H := H.1 hb10
    have hq11 : Value.bool (decide ((a_i2 : Int) = a_j3)) = Value.bool true := congrArg Value.bool (decide_eq_true hb10)
    refine cond_t (ev_tv rfl hq11) ?_
    refine c_seq ?_
    intro K12 hK12
    refine c_region ?_
    refine L_val (v := .slice a_s1 a_s1l a_s1c) (y_move (ev_tv rfl rfl)) ?_
    refine L_val (v := .slice a_s1 a_s1l a_s1c) (y_assign (ev_tv rfl rfl)) ?_
    refine l_nil ?_
    refine then_norm ?_
    refine hK12 _ _ ?_
    clear hK12
    refine c_ret ?_
    refine then_ret ?_
    exact body_1 rfl (ev_tv rfl rfl) H
  · replace H := H.2 hb10
    have hq11 : Value.bool (decide ((a_i2 : Int) = a_j3)) = Value.bool false := congrArg Value.bool (decide_eq_false hb10)
    refine cond_f (ev_tv rfl hq11) ?_
    refine c_skip ?_
    refine then_norm ?_
    refine hK8 _ _ ?_
    clear hK8
    refine c_seq ?_
    intro K13 hK13
    refine c_region ?_
    refine L_val (v := .slice a_s1 a_s1l a_s1c) (y_move (ev_tv rfl rfl)) ?_
    refine L_val (v := .int .i64 ((a_s1l : Nat) : Int)) (y_len Try.underlying43 rfl (map_ev1 (ev_tv rfl rfl))) ?_
    refine L_val (v := .int .i64 ((a_s1l : Nat) : Int)) (y_assign (ev_tv rfl rfl)) ?_
    refine l_nil ?_
    refine then_norm ?_
    refine hK13 _ _ ?_
    clear hK13
    refine c_seq ?_
    intro K14 hK14
    refine D_start Try.mixed rfl [6] ?_
    refine start_keep fun hS => ?_
    refine D_pure (i := 0) (v := .slice a_s1 a_s1l a_s1c) rfl (by kernel_rfl) (W_none rfl) (fun _ => y_move (ev_tv rfl rfl)) hS ?_
    intro hS
    refine D_pure (i := 1) (v := .int .i64 a_i2) rfl (by kernel_rfl) (W_none rfl) (fun _ => y_move (ev_tv rfl rfl)) hS ?_
    intro hS
    obtain ⟨hi16, hi17, H⟩ := H
    obtain ⟨a5, ha15⟩ : ∃ a5 : Option Addr, a5 = a_s1 := ⟨_, rfl⟩
    replace H := H a5 ha15
    refine D_pure (i := 2) (v := .slice a5 ((a_i2 : Int).toNat) a_s1c) rfl (by kernel_rfl) (W_none rfl) (fun _ => y_sliceH Try.underlying43 Try.type3 (ev_tv rfl rfl) (ev_tv rfl rfl) hi16 hi17 ha15) hS ?_
    intro hS
    refine D_pure (i := 3) (v := .slice a_s1 a_s1l a_s1c) rfl (by kernel_rfl) (W_none rfl) (fun _ => y_move (ev_tv rfl rfl)) hS ?_
    intro hS
    refine D_pure (i := 4) (v := .int .i64 a_j3) rfl (by kernel_rfl) (W_none rfl) (fun _ => y_move (ev_tv rfl rfl)) hS ?_
    intro hS
    obtain ⟨hi19, hi20, H⟩ := H
    obtain ⟨a6, ha18⟩ : ∃ a6 : Option Addr, a6 = subA a_s1 1 a_s1c (a_j3 : Int).toNat := ⟨_, rfl⟩
    replace H := H a6 ha18
    refine D_pure (i := 5) (v := .slice a6 (a_s1l - (a_j3 : Int).toNat) (a_s1c - (a_j3 : Int).toNat)) rfl (by kernel_rfl) (W_none rfl) (fun _ => y_sliceL Try.underlying43 Try.type3 rfl (ev_tv rfl rfl) (ev_tv rfl rfl) hi19 hi20 ha18) hS ?_
    intro hS
    refine D_only (i := 6) (by kernel_rfl) rfl ?_
    obtain ⟨x8, x8l, x8c, w7, hc21, H⟩ := H
    refine O_val (i := 6) (v := .slice x8 x8l x8c) rfl (W_none rfl) (y_bi_append (map_ev2 (ev_tv rfl rfl) (ev_tv rfl rfl)) hc21) ?_
    refine and_keep SS_nil fun hS => ?_
    refine D_pure (i := 7) (v := .slice x8 x8l x8c) rfl (by kernel_rfl) (W_none rfl) (fun _ => y_assign (ev_tv rfl rfl)) hS ?_
    intro hS
    refine D_done (by kernel_rfl) ?_
    refine then_norm ?_
    refine hK14 _ _ ?_
    clear hK14
    refine c_seq ?_
    intro K22 hK22
    refine c_region ?_
    refine L_val (v := .slice x8 x8l x8c) (y_move (ev_tv rfl rfl)) ?_
    refine L_val (v := .slice x8 x8l x8c) (y_move (ev_tv rfl rfl)) ?_
    refine L_val (v := .int .i64 ((x8l : Nat) : Int)) (y_len Try.underlying43 rfl (map_ev1 (ev_tv rfl rfl))) ?_
    refine L_val (v := .int .i64 ((a_s1l : Nat) : Int)) (y_move (ev_tv rfl rfl)) ?_
    obtain ⟨hi24, hi25, hi26, H⟩ := H
    obtain ⟨a9, ha23⟩ : ∃ a9 : Option Addr, a9 = subA x8 1 x8c (((x8l : Nat) : Int) : Int).toNat := ⟨_, rfl⟩
    replace H := H a9 ha23
    refine L_val (v := .slice a9 ((((a_s1l : Nat) : Int) : Int).toNat - (((x8l : Nat) : Int) : Int).toNat) (x8c - (((x8l : Nat) : Int) : Int).toNat)) (y_sliceLH Try.underlying43 Try.type3 rfl (ev_tv rfl rfl) (ev_tv rfl rfl) (ev_tv rfl rfl) hi24 hi25 hi26 ha23) ?_
    obtain ⟨w10, hc27, H⟩ := H
    refine L_valn (v := .tuple #[]) (y_bi_clear (map_ev1 (ev_tv rfl rfl)) hc27) ?_
    refine l_nil ?_
    refine then_norm ?_
    refine hK22 _ _ ?_
    clear hK22
    refine c_seq ?_
    intro K28 hK28
    refine c_region ?_
    refine L_val (v := .slice x8 x8l x8c) (y_move (ev_tv rfl rfl)) ?_
    refine L_val (v := .slice x8 x8l x8c) (y_assign (ev_tv rfl rfl)) ?_
    refine l_nil ?_
    refine then_norm ?_
    refine hK28 _ _ ?_
    clear hK28
    refine c_ret ?_
    exact body_1 rfl (ev_tv rfl rfl) H

end Go.Proofs.Ytgkcckghmlccnaa
