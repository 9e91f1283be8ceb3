/- For each Go function: what must be shown of it, and that this is enough. Printed by a program over the seat's translation. -/
import Derived.Test.YtdhdbdpemejpjaaVcGenA
namespace Go.Proofs.Ytdhdbdpemejpjaa
open Go Go.Vc
set_option maxRecDepth 100000
set_option linter.unusedVariables false
set_option maxHeartbeats 2000000

/-- (parapet/tlb.Tlb).Start -/
def Vc10 (a_t1 : Option Addr) (a_space2 : Int) (a_targets3 : Option Addr) (a_targets3l : Nat) (a_targets3c : Nat) (w : World) (R : Ending → World → Prop) : Prop :=
  (((a_t1 = none) → R (.returned (.tuple #[.int .i64 0, .int .i64 6])) w) ∧ ((a_t1 ≠ none) → (∀ (b4 : Nat) (w5 : World), b4 = World.heapSize w → w5 = World.alloc w (.cells #[.int .i64 0, .bool false, .bool false, .bool false, .bool false, .bool false, .bool false, .bool false, .bool false] 64) → ((∀ j, j < 9 → (World.cell? w5 (Addr.add ⟨b4, 0, none⟩ j)).isSome = true ∧ World.frozen? w5 (Addr.add ⟨b4, 0, none⟩ j) = false) ∧ ∀ w6 : World, w6 = putCells w5 ⟨b4, 0, none⟩ [.int .i64 a_space2, .bool false, .bool false, .bool false, .bool false, .bool false, .bool false, .bool false, .bool false] 0 → (∃ J13 : World → Prop, (∀  (w7 : World), J13  w7 → (∃ (b8 o9 : Nat), a_t1 = some ⟨b8, o9, none⟩ ∧ (∃ x10 : Int, World.cell? w7 ⟨b8, o9 + 2, none⟩ = some (.int .i64 x10) ∧ ((((2147483647 : Int) ≤ x10) → R (.returned (.tuple #[.int .i64 0, .int .i64 2])) w7) ∧ ((¬ ((2147483647 : Int) ≤ x10)) → (∃ x11 : Int, World.cell? w7 ⟨b8, o9 + 2, none⟩ = some (.int .i64 x11) ∧ (∀ r12 : Int, r12 = IntKind.wrap .i64 (x11 + 1) → ((World.cell? w7 ⟨b8, o9 + 2, none⟩).isSome = true ∧ World.frozen? w7 ⟨b8, o9 + 2, none⟩ = false ∧ ∀ w13 : World, w13 = World.setCell w7 ⟨b8, o9 + 2, none⟩ (.int .i64 r12) → ((((0 : Int) < ((a_targets3l : Nat) : Int)) → (∃ x14 : Option Nat, World.cell? (w13.drew) ⟨b8, o9 + 3, none⟩ = some (.map x14) ∧ (∃ x15 : Int, World.cell? (w13.drew) ⟨b8, o9 + 2, none⟩ = some (.int .i64 x15) ∧ (∃ x16 : Int, ∃ x17 : Bool, ∃ x18 : Bool, ∃ x19 : Bool, ∃ x20 : Bool, ∃ x21 : Bool, ∃ x22 : Bool, ∃ x23 : Bool, ∃ x24 : Bool, CellsAt (w13.drew) ⟨b4, 0, none⟩ [.int .i64 x16, .bool x17, .bool x18, .bool x19, .bool x20, .bool x21, .bool x22, .bool x23, .bool x24] ∧ (∃ w25 : World, (Instr.mapUpdate 54 (.map x14) (.int .i64 x15) (.agg #[.int .i64 x16, .bool x17, .bool x18, .bool x19, .bool x20, .bool x21, .bool x22, .bool x23, .bool x24])).run Try.prog (w13.drew) = .ok () w25 ∧ (∃ x26 : Int, World.cell? w25 ⟨b8, o9 + 2, none⟩ = some (.int .i64 x26) ∧ R (.returned (.tuple #[.int .i64 x26, .int .i64 0])) w25)))))) ∧ ((¬ ((0 : Int) < ((a_targets3l : Nat) : Int))) → (∃ x27 : Int, World.cell? w13 ⟨b8, o9 + 2, none⟩ = some (.int .i64 x27) ∧ R (.returned (.tuple #[.int .i64 x27, .int .i64 0])) w13))))))))))) ∧ (∃ I44 : Nat → Int → World → Prop, (∃ m, I44 m 0 w6) ∧ ∀ (m29 : Nat) (v28 : Int) (w30 : World), I44 m29 v28 w30 → ((((v28 : Int) < ((a_targets3l : Nat) : Int)) → (∃ (b31 o32 : Nat), a_targets3 = some ⟨b31, o32, none⟩ ∧ ((0 : Int) ≤ v28 ∧ v28 < ((a_targets3l : Nat) : Int) ∧ (∃ x33 : Int, World.cell? w30 ⟨b31, o32 + (v28 : Int).toNat, none⟩ = some (.int .i64 x33) ∧ (Calls Try.prog 20 #[.pointer a_t1, .int .i64 x33] w30 fun e w35 => ∃ x34 : Bool, e = .returned (.bool x34) ∧ (((x34 = true) → ((0 : Int) ≤ x33 ∧ x33 < ((8 : Nat) : Int) ∧ (∃ x37 : Bool, World.cell? w35 ⟨b4, 0 + 1 + (x33 : Int).toNat * 1, none⟩ = some (.bool x37) ∧ (((x37 = true) → R (.returned (.tuple #[.int .i64 0, .int .i64 1])) w35) ∧ ((x37 = false) → ((0 : Int) ≤ x33 ∧ x33 < ((8 : Nat) : Int) ∧ ((World.cell? w35 ⟨b4, 0 + 1 + (x33 : Int).toNat * 1, none⟩).isSome = true ∧ World.frozen? w35 ⟨b4, 0 + 1 + (x33 : Int).toNat * 1, none⟩ = false ∧ ∀ w38 : World, w38 = World.setCell w35 ⟨b4, 0 + 1 + (x33 : Int).toNat * 1, none⟩ (.bool true) → (∀ r39 : Int, r39 = IntKind.wrap .i64 (v28 + 1) → (∃ m40, m40 < m29 ∧ I44 m40 r39 w38))))))))) ∧ ((x34 = false) → R (.returned (.tuple #[.int .i64 0, .int .i64 1])) w35))))))) ∧ ((¬ ((v28 : Int) < ((a_targets3l : Nat) : Int))) → J13  w30))))))))

theorem vc10 {a_t1 : Option Addr} {a_space2 : Int} {a_targets3 : Option Addr} {a_targets3l : Nat} {a_targets3c : Nat} {w : World} {R : Ending → World → Prop} (H : Vc10 a_t1 a_space2 a_targets3 a_targets3l a_targets3c w R) : Calls Try.prog 10 #[.pointer a_t1, .int .i64 a_space2, .slice a_targets3 a_targets3l a_targets3c] w R := by
  unfold Vc10 at H
  refine calls_start [.pointer a_t1, .int .i64 a_space2, .slice a_targets3 a_targets3l a_targets3c] Try.func10 rfl Try.ntmps10 rfl ?_
  refine c_seq ?_
  intro K1 hK1
  refine c_region ?_
  refine L_val (v := .int .i64 0) (y_assign ev_c) ?_
  refine L_val (v := .int .i64 0) (y_assign ev_c) ?_
  refine l_nil ?_
  refine then_norm ?_
  refine hK1 _ _ ?_
  clear hK1
  refine c_seq ?_
  intro K2 hK2
  refine c_seq ?_
  intro K3 hK3
  refine c_region ?_
  refine L_val (v := .pointer a_t1) (y_move (ev_tv rfl rfl)) ?_
  refine L_val (v := .bool (a_t1.isNone)) (y_peq Try.underlying24 (ev_tv rfl rfl) ev_c) ?_
  refine l_nil ?_
  refine then_norm ?_
  refine hK3 _ _ ?_
  clear hK3
  rcases (Classical.em (a_t1 = none)) with hb4 | hb4
  · replace H := H.1 hb4
    have hq5 : Value.bool (a_t1.isNone) = Value.bool true := congrArg Value.bool (isn_t hb4)
    refine cond_t (ev_tv rfl hq5) ?_
    refine c_seq ?_
    intro K6 hK6
    refine c_region ?_
    refine L_val (v := .int .i64 0) (y_assign ev_c) ?_
    refine L_val (v := .int .i64 6) (y_assign ev_c) ?_
    refine l_nil ?_
    refine then_norm ?_
    refine hK6 _ _ ?_
    clear hK6
    refine c_ret ?_
    refine then_ret ?_
    exact body_2 rfl (ev_tv rfl rfl) (ev_tv rfl rfl) H
  · replace H := H.2 hb4
    have hq5 : Value.bool (a_t1.isNone) = Value.bool false := congrArg Value.bool (isn_f hb4)
    refine cond_f (ev_tv rfl hq5) ?_
    refine c_skip ?_
    refine then_norm ?_
    refine hK2 _ _ ?_
    clear hK2
    refine c_seq ?_
    intro K7 hK7
    refine c_region ?_
    refine L_val (v := .int .i64 a_space2) (y_move (ev_tv rfl rfl)) ?_
    refine L_val (v := .agg #[.int .i64 a_space2, .bool false, .bool false, .bool false, .bool false, .bool false, .bool false, .bool false, .bool false]) (y_build (parts_ev1 (ev_tv rfl rfl)) (by kernel_rfl)) ?_
    obtain ⟨b4, hb8⟩ : ∃ b4 : Nat, b4 = World.heapSize w := ⟨_, rfl⟩
    obtain ⟨w5, hw9⟩ : ∃ w5 : World, w5 = World.alloc w (.cells #[.int .i64 0, .bool false, .bool false, .bool false, .bool false, .bool false, .bool false, .bool false, .bool false] 64) := ⟨_, rfl⟩
    replace H := H b4 w5 hb8 hw9
    refine L_val (v := .pointer (some ⟨b4, 0, none⟩)) (y_alloc Try.type64 rfl rfl hb8 hw9) ?_
    obtain ⟨hc10, H⟩ := H
    obtain ⟨w6, hw12⟩ : ∃ w6 : World, w6 = putCells w5 ⟨b4, 0, none⟩ [.int .i64 a_space2, .bool false, .bool false, .bool false, .bool false, .bool false, .bool false, .bool false, .bool false] 0 := ⟨_, rfl⟩
    replace H := H w6 hw12
    refine L_skip (y_storeAgg Try.type64 rfl (by intro v hv; simp only [List.mem_cons, List.not_mem_nil, or_false] at hv; rcases hv with rfl | rfl | rfl | rfl | rfl | rfl | rfl | rfl | rfl <;> rfl) (ev_tv rfl rfl) (ev_tv rfl rfl) hc10 hw12) ?_
    refine l_nil ?_
    refine then_norm ?_
    refine hK7 _ _ ?_
    clear hK7
    obtain ⟨J13, hJ14, H⟩ := H
    refine c_seqJ [(6, 7), (10, 10), (15, 34)] (fun ff ww => J13  ww) ?_ ?_
    · clear hJ14
      intro K18 hK18
      refine c_seq ?_
      intro K43 hK43
      refine c_region ?_
      refine L_val (v := .slice a_targets3 a_targets3l a_targets3c) (y_move (ev_tv rfl rfl)) ?_
      refine L_val (v := .int .i64 ((a_targets3l : Nat) : Int)) (y_len Try.underlying23 rfl (map_ev1 (ev_tv rfl rfl))) ?_
      refine L_val (v := .int .i64 0) (y_move ev_c) ?_
      refine l_nil ?_
      refine then_norm ?_
      refine hK43 _ _ ?_
      clear hK43
      refine c_block ?_
      obtain ⟨I44, ⟨m48, HI49⟩, H⟩ := H
      refine loop_fr ([(6, 7), (10, 10), (17, 34)]) (fun m ff ww => ∃ (v28 : Int), ff 17 = (.int .i64 v28 : Value) ∧ I44 m v28 ww) m48 ⟨0, rfl, HI49⟩ ?_
      rintro m29 f45 w30 hag46 ⟨v28, hs50, HI47⟩
      replace H := H m29 v28 w30 HI47
      refine c_seq ?_
      intro K51 hK51
      refine c_region ?_
      refine L_val (v := .bool (decide ((v28 : Int) < ((a_targets3l : Nat) : Int)))) (y_lss (ev_tv rfl hs50) (ev_tv rfl ((hag46 16 rfl).trans rfl))) ?_
      refine l_nil ?_
      refine then_norm ?_
      refine hK51 _ _ ?_
      clear hK51
      refine c_seq ?_
      intro K52 hK52
      rcases (Decidable.em ((v28 : Int) < ((a_targets3l : Nat) : Int))) with hb53 | hb53
      · replace H := H.1 hb53
        have hq54 : Value.bool (decide ((v28 : Int) < ((a_targets3l : Nat) : Int))) = Value.bool true := congrArg Value.bool (decide_eq_true hb53)
        refine cond_t (ev_tv rfl hq54) ?_
        refine c_skip ?_
        refine then_norm ?_
        refine hK52 _ _ ?_
        clear hK52
        refine c_seq ?_
        intro K55 hK55
        refine c_block ?_
        refine c_seq ?_
        intro K56 hK56
        refine c_region ?_
        obtain ⟨b31, o32, rfl, H⟩ := H
        obtain ⟨hi57, hi58, H⟩ := H
        refine L_val (v := .pointer (some ⟨b31, o32 + (v28 : Int).toNat, none⟩)) (y_ix1 Try.underlying23 Try.type3 rfl (ev_tv rfl ((hag46 15 rfl).trans rfl)) (ev_tv rfl hs50) hi57 hi58) ?_
        obtain ⟨x33, hc59, H⟩ := H
        refine L_val (v := .int .i64 x33) (y_load Try.underlying3 rfl (ev_tv rfl rfl) hc59) ?_
        refine L_val (v := .int .i64 x33) (y_assign (ev_tv rfl rfl)) ?_
        refine l_nil ?_
        refine then_norm ?_
        refine hK56 _ _ ?_
        clear hK56
        refine c_seq ?_
        intro K60 hK60
        refine c_seq ?_
        intro K61 hK61
        refine c_region ?_
        refine L_val (v := .pointer a_t1) (y_move (ev_tv rfl ((hag46 0 rfl).trans rfl))) ?_
        refine L_val (v := .int .i64 x33) (y_move (ev_tv rfl rfl)) ?_
        refine L_call (y_call Try.call20 (map_ev2 (ev_tv rfl rfl) (ev_tv rfl rfl)) ev_f) (Calls.mono H ?_)
        clear H
        rintro _ w35 ⟨x34, rfl, H⟩
        refine ⟨_, rfl, ?_⟩
        rcases Bool.eq_false_or_eq_true x34 with hb62 | hb62
        · replace H := H.1 hb62
          have hq63 : Value.bool (x34) = Value.bool true := congrArg Value.bool hb62
          refine L_val (v := .bool false) (y_not_t (ev_tv rfl hq63)) ?_
          refine L_val (v := .bool false) (y_move (ev_tv rfl rfl)) ?_
          refine G_val (dj := 25) rfl rfl rfl (v := .int .i64 x33) (y_move (ev_tv rfl rfl)) ?_
          refine G_val (dj := 25) rfl rfl rfl (v := .pointer (some ⟨b4, 0 + 1, none⟩)) (Try.fa64_1 (ev_tv rfl ((hag46 8 rfl).trans rfl))) ?_
          obtain ⟨hi64, hi65, H⟩ := H
          refine G_val (dj := 25) rfl rfl rfl (v := .pointer (some ⟨b4, 0 + 1 + (x33 : Int).toNat * 1, none⟩)) (y_ixA Try.underlying62 Try.type4 rfl (ev_tv rfl rfl) (ev_tv rfl rfl) hi64 hi65) ?_
          obtain ⟨x37, hc66, H⟩ := H
          refine G_val (dj := 25) rfl rfl rfl (v := .bool x37) (y_load Try.underlying4 rfl (ev_tv rfl rfl) hc66) ?_
          refine L_val (v := .bool x37) (y_pick_f (ev_tv rfl rfl) (ev_tv rfl rfl)) ?_
          refine l_nil ?_
          refine then_norm ?_
          refine hK61 _ _ ?_
          clear hK61
          rcases Bool.eq_false_or_eq_true x37 with hb67 | hb67
          · replace H := H.1 hb67
            have hq68 : Value.bool (x37) = Value.bool true := congrArg Value.bool hb67
            refine cond_t (ev_tv rfl hq68) ?_
            refine c_seq ?_
            intro K69 hK69
            refine c_region ?_
            refine L_val (v := .int .i64 0) (y_assign ev_c) ?_
            refine L_val (v := .int .i64 1) (y_assign ev_c) ?_
            refine l_nil ?_
            refine then_norm ?_
            refine hK69 _ _ ?_
            clear hK69
            refine c_ret ?_
            refine then_ret ?_
            refine block_ret ?_
            refine then_ret ?_
            refine then_ret ?_
            refine block_ret ?_
            refine then_ret ?_
            exact body_2 rfl (ev_tv rfl rfl) (ev_tv rfl rfl) H
          · replace H := H.2 hb67
            have hq68 : Value.bool (x37) = Value.bool false := congrArg Value.bool hb67
            refine cond_f (ev_tv rfl hq68) ?_
            refine c_skip ?_
            refine then_norm ?_
            refine hK60 _ _ ?_
            clear hK60
            refine c_region ?_
            refine L_val (v := .int .i64 x33) (y_move (ev_tv rfl rfl)) ?_
            refine L_val (v := .pointer (some ⟨b4, 0 + 1, none⟩)) (Try.fa64_1 (ev_tv rfl ((hag46 8 rfl).trans rfl))) ?_
            obtain ⟨hi70, hi71, H⟩ := H
            refine L_val (v := .pointer (some ⟨b4, 0 + 1 + (x33 : Int).toNat * 1, none⟩)) (y_ixA Try.underlying62 Try.type4 rfl (ev_tv rfl rfl) (ev_tv rfl rfl) hi70 hi71) ?_
            obtain ⟨hc72, hf73, H⟩ := H
            obtain ⟨w38, hw74⟩ : ∃ w38 : World, w38 = World.setCell w35 ⟨b4, 0 + 1 + (x33 : Int).toNat * 1, none⟩ (.bool true) := ⟨_, rfl⟩
            replace H := H w38 hw74
            refine L_skip (y_store Try.type4 rfl rfl (ev_tv rfl rfl) ev_c hc72 hf73 hw74) ?_
            refine l_nil ?_
            refine block_norm ?_
            refine then_norm ?_
            refine hK55 _ _ ?_
            clear hK55
            refine c_region ?_
            obtain ⟨r39, hr75⟩ : ∃ r39 : Int, r39 = IntKind.wrap .i64 (v28 + 1) := ⟨_, rfl⟩
            replace H := H r39 hr75
            refine L_val (v := .int .i64 r39) (y_add (ev_tv rfl hs50) ev_c hr75) ?_
            refine L_val (v := .int .i64 r39) (y_move (ev_tv rfl rfl)) ?_
            refine l_nil ?_
            refine then_norm ?_
            obtain ⟨m40, hm76, H⟩ := H
            exact ⟨_, rfl, (by repeat (first | exact agree_refl | exact hag46 | refine agree_upd rfl ?_ | refine agree_via hag46 rfl ?_)), m40, hm76, _, rfl, H⟩
        · replace H := H.2 hb62
          have hq63 : Value.bool (x34) = Value.bool false := congrArg Value.bool hb62
          refine L_val (v := .bool true) (y_not_f (ev_tv rfl hq63)) ?_
          refine L_val (v := .bool true) (y_move (ev_tv rfl rfl)) ?_
          refine G_not (b' := true) (dj := 25) rfl rfl rfl rfl ?_
          refine G_not (b' := true) (dj := 25) rfl rfl rfl rfl ?_
          refine G_not (b' := true) (dj := 25) rfl rfl rfl rfl ?_
          refine G_not (b' := true) (dj := 25) rfl rfl rfl rfl ?_
          refine L_val (v := .bool true) (y_pick_t (ev_tv rfl rfl) ev_c) ?_
          refine l_nil ?_
          refine then_norm ?_
          refine hK61 _ _ ?_
          clear hK61
          refine cond_t (ev_tv rfl rfl) ?_
          refine c_seq ?_
          intro K77 hK77
          refine c_region ?_
          refine L_val (v := .int .i64 0) (y_assign ev_c) ?_
          refine L_val (v := .int .i64 1) (y_assign ev_c) ?_
          refine l_nil ?_
          refine then_norm ?_
          refine hK77 _ _ ?_
          clear hK77
          refine c_ret ?_
          refine then_ret ?_
          refine block_ret ?_
          refine then_ret ?_
          refine then_ret ?_
          refine block_ret ?_
          refine then_ret ?_
          exact body_2 rfl (ev_tv rfl rfl) (ev_tv rfl rfl) H
      · replace H := H.2 hb53
        have hq54 : Value.bool (decide ((v28 : Int) < ((a_targets3l : Nat) : Int))) = Value.bool false := congrArg Value.bool (decide_eq_false hb53)
        refine cond_f (ev_tv rfl hq54) ?_
        refine c_exit ?_
        refine then_exit ?_
        refine then_exit ?_
        refine block_hit ?_
        refine then_norm ?_
        exact hK18 _ _ (by repeat (first | exact agree_refl | exact hag46 | refine agree_upd rfl ?_ | refine agree_via hag46 rfl ?_)) H
    · clear H
      intro f15 w7 hag16 HJ17
      have H := hJ14  w7 HJ17
      clear hJ14
      refine c_seq ?_
      intro K19 hK19
      refine c_seq ?_
      intro K20 hK20
      refine c_region ?_
      refine L_val (v := .pointer a_t1) (y_move (ev_tv rfl ((hag16 0 rfl).trans rfl))) ?_
      obtain ⟨b8, o9, rfl, H⟩ := H
      refine L_val (v := .pointer (some ⟨b8, o9, none⟩)) (y_nilCheck (ev_tv rfl rfl)) ?_
      refine L_val (v := .pointer (some ⟨b8, o9 + 2, none⟩)) (Try.fa56_2 (ev_tv rfl rfl)) ?_
      obtain ⟨x10, hc21, H⟩ := H
      refine L_val (v := .int .i64 x10) (y_load Try.underlying3 rfl (ev_tv rfl rfl) hc21) ?_
      refine L_val (v := .bool (decide ((2147483647 : Int) ≤ x10))) (y_geq (ev_tv rfl rfl) ev_c) ?_
      refine l_nil ?_
      refine then_norm ?_
      refine hK20 _ _ ?_
      clear hK20
      rcases (Decidable.em ((2147483647 : Int) ≤ x10)) with hb22 | hb22
      · replace H := H.1 hb22
        have hq23 : Value.bool (decide ((2147483647 : Int) ≤ x10)) = Value.bool true := congrArg Value.bool (decide_eq_true hb22)
        refine cond_t (ev_tv rfl hq23) ?_
        refine c_seq ?_
        intro K24 hK24
        refine c_region ?_
        refine L_val (v := .int .i64 0) (y_assign ev_c) ?_
        refine L_val (v := .int .i64 2) (y_assign ev_c) ?_
        refine l_nil ?_
        refine then_norm ?_
        refine hK24 _ _ ?_
        clear hK24
        refine c_ret ?_
        refine then_ret ?_
        exact body_2 rfl (ev_tv rfl rfl) (ev_tv rfl rfl) H
      · replace H := H.2 hb22
        have hq23 : Value.bool (decide ((2147483647 : Int) ≤ x10)) = Value.bool false := congrArg Value.bool (decide_eq_false hb22)
        refine cond_f (ev_tv rfl hq23) ?_
        refine c_skip ?_
        refine then_norm ?_
        refine hK19 _ _ ?_
        clear hK19
        refine c_seq ?_
        intro K25 hK25
        refine c_region ?_
        refine L_val (v := .pointer (some ⟨b8, o9, none⟩)) (y_move (ev_tv rfl ((hag16 0 rfl).trans rfl))) ?_
        refine L_val (v := .pointer (some ⟨b8, o9, none⟩)) (y_nilCheck (ev_tv rfl rfl)) ?_
        refine L_val (v := .pointer (some ⟨b8, o9 + 2, none⟩)) (Try.fa56_2 (ev_tv rfl rfl)) ?_
        obtain ⟨x11, hc26, H⟩ := H
        refine L_val (v := .int .i64 x11) (y_load Try.underlying3 rfl (ev_tv rfl rfl) hc26) ?_
        obtain ⟨r12, hr27⟩ : ∃ r12 : Int, r12 = IntKind.wrap .i64 (x11 + 1) := ⟨_, rfl⟩
        replace H := H r12 hr27
        refine L_val (v := .int .i64 r12) (y_add (ev_tv rfl rfl) ev_c hr27) ?_
        refine L_val (v := .pointer (some ⟨b8, o9, none⟩)) (y_nilCheck (ev_tv rfl rfl)) ?_
        refine L_val (v := .pointer (some ⟨b8, o9 + 2, none⟩)) (Try.fa56_2 (ev_tv rfl rfl)) ?_
        obtain ⟨hc28, hf29, H⟩ := H
        obtain ⟨w13, hw30⟩ : ∃ w13 : World, w13 = World.setCell w7 ⟨b8, o9 + 2, none⟩ (.int .i64 r12) := ⟨_, rfl⟩
        replace H := H w13 hw30
        refine L_skip (y_store Try.type3 rfl rfl (ev_tv rfl rfl) (ev_tv rfl rfl) hc28 hf29 hw30) ?_
        refine l_nil ?_
        refine then_norm ?_
        refine hK25 _ _ ?_
        clear hK25
        refine c_seq ?_
        intro K31 hK31
        refine c_seq ?_
        intro K32 hK32
        refine c_region ?_
        refine L_val (v := .slice a_targets3 a_targets3l a_targets3c) (y_move (ev_tv rfl ((hag16 2 rfl).trans rfl))) ?_
        refine L_val (v := .int .i64 ((a_targets3l : Nat) : Int)) (y_len Try.underlying23 rfl (map_ev1 (ev_tv rfl rfl))) ?_
        refine L_val (v := .bool (decide ((0 : Int) < ((a_targets3l : Nat) : Int)))) (y_gtr (ev_tv rfl rfl) ev_c) ?_
        refine l_nil ?_
        refine then_norm ?_
        refine hK32 _ _ ?_
        clear hK32
        rcases (Decidable.em ((0 : Int) < ((a_targets3l : Nat) : Int))) with hb33 | hb33
        · replace H := H.1 hb33
          have hq34 : Value.bool (decide ((0 : Int) < ((a_targets3l : Nat) : Int))) = Value.bool true := congrArg Value.bool (decide_eq_true hb33)
          refine cond_t (ev_tv rfl hq34) ?_
          refine D_start Try.mixed rfl [9] ?_
          refine start_keep fun hS => ?_
          refine D_pure (i := 0) (v := .pointer (some ⟨b8, o9, none⟩)) rfl (by kernel_rfl) (W_none rfl) (fun _ => y_move (ev_tv rfl ((hag16 0 rfl).trans rfl))) hS ?_
          intro hS
          refine D_pure (i := 1) (v := .pointer (some ⟨b8, o9, none⟩)) rfl (by kernel_rfl) (W_none rfl) (fun _ => y_nilCheck (ev_tv rfl rfl)) hS ?_
          intro hS
          refine D_pure (i := 2) (v := .pointer (some ⟨b8, o9 + 3, none⟩)) rfl (by kernel_rfl) (W_none rfl) (fun _ => Try.fa56_3 (ev_tv rfl rfl)) hS ?_
          intro hS
          refine D_pure (i := 4) (v := .pointer (some ⟨b8, o9, none⟩)) rfl (by kernel_rfl) (W_none rfl) (fun _ => y_move (ev_tv rfl ((hag16 0 rfl).trans rfl))) hS ?_
          intro hS
          refine D_pure (i := 5) (v := .pointer (some ⟨b8, o9, none⟩)) rfl (by kernel_rfl) (W_none rfl) (fun _ => y_nilCheck (ev_tv rfl rfl)) hS ?_
          intro hS
          refine D_pure (i := 6) (v := .pointer (some ⟨b8, o9 + 2, none⟩)) rfl (by kernel_rfl) (W_none rfl) (fun _ => Try.fa56_2 (ev_tv rfl rfl)) hS ?_
          intro hS
          obtain ⟨x14, hc35, H⟩ := H
          refine D_read (i := 3) (v := .map x14) rfl (by kernel_rfl) (W_none rfl) (fun wx => World.cell? wx ⟨b8, o9 + 3, none⟩ = some (.map x14)) hc35 (fun _ hcx => y_load Try.underlying54 rfl (ev_tv rfl rfl) hcx) hS ?_
          intro hS
          obtain ⟨x15, hc36, H⟩ := H
          refine D_read (i := 7) (v := .int .i64 x15) rfl (by kernel_rfl) (W_none rfl) (fun wx => World.cell? wx ⟨b8, o9 + 2, none⟩ = some (.int .i64 x15)) hc36 (fun _ hcx => y_load Try.underlying3 rfl (ev_tv rfl rfl) hcx) hS ?_
          intro hS
          obtain ⟨x16, x17, x18, x19, x20, x21, x22, x23, x24, hc37, H⟩ := H
          refine D_read (i := 8) (v := .agg #[.int .i64 x16, .bool x17, .bool x18, .bool x19, .bool x20, .bool x21, .bool x22, .bool x23, .bool x24]) rfl (by kernel_rfl) (W_none rfl) (fun wx => CellsAt wx ⟨b4, 0, none⟩ [.int .i64 x16, .bool x17, .bool x18, .bool x19, .bool x20, .bool x21, .bool x22, .bool x23, .bool x24]) hc37 (fun _ hcx => y_loadAgg Try.underlying64 rfl Try.type64 rfl (ev_tv rfl ((hag16 8 rfl).trans rfl)) hcx) hS ?_
          intro hS
          refine D_only (i := 9) (by kernel_rfl) rfl ?_
          obtain ⟨w25, hw38, H⟩ := H
          refine O_skip (i := 9) rfl (W_none rfl) (y_mapUpdate (ev_tv rfl rfl) (ev_tv rfl rfl) (ev_tv rfl rfl) hw38) ?_
          refine and_keep (SS_off (by kernel_rfl) (SS_off (by kernel_rfl) (SS_off (by kernel_rfl) SS_nil))) fun hS => ?_
          refine D_done (by kernel_rfl) ?_
          refine then_norm ?_
          refine hK31 _ _ ?_
          clear hK31
          refine c_seq ?_
          intro K39 hK39
          refine c_region ?_
          refine L_val (v := .pointer (some ⟨b8, o9, none⟩)) (y_move (ev_tv rfl ((hag16 0 rfl).trans rfl))) ?_
          refine L_val (v := .pointer (some ⟨b8, o9, none⟩)) (y_nilCheck (ev_tv rfl rfl)) ?_
          refine L_val (v := .pointer (some ⟨b8, o9 + 2, none⟩)) (Try.fa56_2 (ev_tv rfl rfl)) ?_
          obtain ⟨x26, hc40, H⟩ := H
          refine L_val (v := .int .i64 x26) (y_load Try.underlying3 rfl (ev_tv rfl rfl) hc40) ?_
          refine L_val (v := .int .i64 x26) (y_assign (ev_tv rfl rfl)) ?_
          refine L_val (v := .int .i64 0) (y_assign ev_c) ?_
          refine l_nil ?_
          refine then_norm ?_
          refine hK39 _ _ ?_
          clear hK39
          refine c_ret ?_
          exact body_2 rfl (ev_tv rfl rfl) (ev_tv rfl rfl) H
        · replace H := H.2 hb33
          have hq34 : Value.bool (decide ((0 : Int) < ((a_targets3l : Nat) : Int))) = Value.bool false := congrArg Value.bool (decide_eq_false hb33)
          refine cond_f (ev_tv rfl hq34) ?_
          refine c_skip ?_
          refine then_norm ?_
          refine hK31 _ _ ?_
          clear hK31
          refine c_seq ?_
          intro K41 hK41
          refine c_region ?_
          refine L_val (v := .pointer (some ⟨b8, o9, none⟩)) (y_move (ev_tv rfl ((hag16 0 rfl).trans rfl))) ?_
          refine L_val (v := .pointer (some ⟨b8, o9, none⟩)) (y_nilCheck (ev_tv rfl rfl)) ?_
          refine L_val (v := .pointer (some ⟨b8, o9 + 2, none⟩)) (Try.fa56_2 (ev_tv rfl rfl)) ?_
          obtain ⟨x27, hc42, H⟩ := H
          refine L_val (v := .int .i64 x27) (y_load Try.underlying3 rfl (ev_tv rfl rfl) hc42) ?_
          refine L_val (v := .int .i64 x27) (y_assign (ev_tv rfl rfl)) ?_
          refine L_val (v := .int .i64 0) (y_assign ev_c) ?_
          refine l_nil ?_
          refine then_norm ?_
          refine hK41 _ _ ?_
          clear hK41
          refine c_ret ?_
          exact body_2 rfl (ev_tv rfl rfl) (ev_tv rfl rfl) H

/-- (parapet/tlb.Tlb).Pending -/
def Vc11 (a_t1 : Option Addr) (a_h2 : Int) (w : World) (R : Ending → World → Prop) : Prop :=
  (Calls Try.prog 20 #[.pointer a_t1, .int .i64 a_h2] w fun e w4 => ∃ x3 : Bool, e = .returned (.bool x3) ∧ (((x3 = true) → (∃ (b6 o7 : Nat), a_t1 = some ⟨b6, o7, none⟩ ∧ (∃ x8 : Option Nat, World.cell? w4 ⟨b6, o7 + 3, none⟩ = some (.map x8) ∧ (∃ x10 : Option Addr, ∃ w9 : World, (Instr.range 54 (.map x8)).run Try.prog w4 = .ok (.pointer x10) w9 ∧ (∃ I11 : Nat → Option Addr → Nat → Nat → World → Prop, (∃ m, I11 m none 0 0 w9) ∧ ∀ (m12 : Nat) (v11 : Option Addr) (v11l : Nat) (v11c : Nat) (w13 : World), I11 m12 v11 v11l v11c w13 → (∃ nb14 : Bool, ∃ nv15 : Value, ∃ w16 : World, (Instr.next (.pointer x10) false 0).run Try.prog w13 = .ok nv15 w16 ∧ (∀ w' : World, (Instr.extract nv15 0).run Try.prog w' = .ok (.bool nb14) w') ∧ (((nb14 = true) → (∃ x17 : Int, ∃ x18 : Int, ∃ x19 : Bool, ∃ x20 : Bool, ∃ x21 : Bool, ∃ x22 : Bool, ∃ x23 : Bool, ∃ x24 : Bool, ∃ x25 : Bool, ∃ x26 : Bool, (Instr.entry (.pointer x10)).run Try.prog w16 = .ok (.tuple #[.int .i64 x17, .agg #[.int .i64 x18, .bool x19, .bool x20, .bool x21, .bool x22, .bool x23, .bool x24, .bool x25, .bool x26]]) w16 ∧ (∀ (b27 : Nat) (w28 : World), b27 = World.heapSize w16 → w28 = World.alloc w16 (.cells #[.int .i64 0, .bool false, .bool false, .bool false, .bool false, .bool false, .bool false, .bool false, .bool false] 64) → ((∀ j, j < 9 → (World.cell? w28 (Addr.add ⟨b27, 0, none⟩ j)).isSome = true ∧ World.frozen? w28 (Addr.add ⟨b27, 0, none⟩ j) = false) ∧ ∀ w29 : World, w29 = putCells w28 ⟨b27, 0, none⟩ [.int .i64 x18, .bool x19, .bool x20, .bool x21, .bool x22, .bool x23, .bool x24, .bool x25, .bool x26] 0 → ((0 : Int) ≤ a_h2 ∧ a_h2 < ((8 : Nat) : Int) ∧ (∃ x30 : Bool, World.cell? w29 ⟨b27, 0 + 1 + (a_h2 : Int).toNat * 1, none⟩ = some (.bool x30) ∧ (((x30 = true) → (∀ (b31 : Nat) (w32 : World), b31 = World.heapSize w29 → w32 = World.alloc w29 (.cells #[.int .i64 x17] 3) → (∃ x34 : Option Addr, ∃ x34l : Nat, ∃ x34c : Nat, ∃ w33 : World, (Builtin.append_ #[23, 23] 23 #[.slice v11 v11l v11c, .slice (some ⟨b31, 0, none⟩) 1 1]).run Try.prog w32 = .ok (.slice x34 x34l x34c) w33 ∧ (∃ m35, m35 < m12 ∧ I11 m35 x34 x34l x34c w33)))) ∧ ((x30 = false) → (∃ m36, m36 < m12 ∧ I11 m36 v11 v11l v11c w29))))))))) ∧ ((nb14 = false) → (Calls Try.prog 22 #[.slice v11 v11l v11c] w16 fun e w37 => e = .returned (.tuple #[]) ∧ R (.returned (.slice v11 v11l v11c)) w37))))))))) ∧ ((x3 = false) → R (.returned (.slice none 0 0)) w4)))

theorem vc11 {a_t1 : Option Addr} {a_h2 : Int} {w : World} {R : Ending → World → Prop} (H : Vc11 a_t1 a_h2 w R) : Calls Try.prog 11 #[.pointer a_t1, .int .i64 a_h2] w R := by
  unfold Vc11 at H
  refine calls_start [.pointer a_t1, .int .i64 a_h2] Try.func11 rfl Try.ntmps11 rfl ?_
  refine c_seq ?_
  intro K1 hK1
  refine c_region ?_
  refine L_val (v := .slice none 0 0) (y_assign ev_c) ?_
  refine l_nil ?_
  refine then_norm ?_
  refine hK1 _ _ ?_
  clear hK1
  refine c_seq ?_
  intro K2 hK2
  refine c_seq ?_
  intro K3 hK3
  refine c_region ?_
  refine L_val (v := .pointer a_t1) (y_move (ev_tv rfl rfl)) ?_
  refine L_val (v := .int .i64 a_h2) (y_move (ev_tv rfl rfl)) ?_
  refine L_call (y_call Try.call20 (map_ev2 (ev_tv rfl rfl) (ev_tv rfl rfl)) ev_f) (Calls.mono H ?_)
  clear H
  rintro _ w4 ⟨x3, rfl, H⟩
  refine ⟨_, rfl, ?_⟩
  rcases Bool.eq_false_or_eq_true x3 with hb4 | hb4
  · replace H := H.1 hb4
    have hq5 : Value.bool (x3) = Value.bool true := congrArg Value.bool hb4
    refine L_val (v := .bool false) (y_not_t (ev_tv rfl hq5)) ?_
    refine l_nil ?_
    refine then_norm ?_
    refine hK3 _ _ ?_
    clear hK3
    refine cond_f (ev_tv rfl rfl) ?_
    refine c_skip ?_
    refine then_norm ?_
    refine hK2 _ _ ?_
    clear hK2
    refine c_seq ?_
    intro K6 hK6
    refine c_region ?_
    refine L_val (v := .slice none 0 0) (y_assign ev_c) ?_
    refine l_nil ?_
    refine then_norm ?_
    refine hK6 _ _ ?_
    clear hK6
    refine c_seq ?_
    intro K7 hK7
    refine c_seq ?_
    intro K8 hK8
    refine c_region ?_
    refine L_val (v := .pointer a_t1) (y_move (ev_tv rfl rfl)) ?_
    obtain ⟨b6, o7, rfl, H⟩ := H
    refine L_val (v := .pointer (some ⟨b6, o7, none⟩)) (y_nilCheck (ev_tv rfl rfl)) ?_
    refine L_val (v := .pointer (some ⟨b6, o7 + 3, none⟩)) (Try.fa56_3 (ev_tv rfl rfl)) ?_
    obtain ⟨x8, hc9, H⟩ := H
    refine L_val (v := .map x8) (y_load Try.underlying54 rfl (ev_tv rfl rfl) hc9) ?_
    obtain ⟨x10, w9, hc10, H⟩ := H
    refine L_val (v := .pointer x10) (y_range (ev_tv rfl rfl) hc10) ?_
    refine l_nil ?_
    refine then_norm ?_
    refine hK8 _ _ ?_
    clear hK8
    refine c_block ?_
    obtain ⟨I11, ⟨m15, HI16⟩, H⟩ := H
    refine loop_fr ([(5, 7), (17, 29)]) (fun m ff ww => ∃ (v11 : Option Addr) (v11l : Nat) (v11c : Nat), ff 5 = (.slice v11 v11l v11c : Value) ∧ I11 m v11 v11l v11c ww) m15 ⟨none, 0, 0, rfl, HI16⟩ ?_
    rintro m12 f12 w13 hag13 ⟨v11, v11l, v11c, hs17, HI14⟩
    replace H := H m12 v11 v11l v11c w13 HI14
    refine c_seq ?_
    intro K18 hK18
    refine c_region ?_
    obtain ⟨nb14, nv15, w16, hc19, hn20, H⟩ := H
    refine L_val (v := nv15) (y_next (ev_tv rfl ((hag13 16 rfl).trans rfl)) hc19) ?_
    refine L_val (v := .bool nb14) (y_extractV (ev_tv rfl rfl) (hn20 _)) ?_
    refine l_nil ?_
    refine then_norm ?_
    refine hK18 _ _ ?_
    clear hK18
    refine c_seq ?_
    intro K21 hK21
    rcases Bool.eq_false_or_eq_true nb14 with hb22 | hb22
    · replace H := H.1 hb22
      have hq23 : Value.bool (nb14) = Value.bool true := congrArg Value.bool hb22
      refine cond_t (ev_tv rfl hq23) ?_
      refine c_skip ?_
      refine then_norm ?_
      refine hK21 _ _ ?_
      clear hK21
      refine c_block ?_
      refine c_seq ?_
      intro K24 hK24
      refine c_region ?_
      obtain ⟨x17, x18, x19, x20, x21, x22, x23, x24, x25, x26, hc25, H⟩ := H
      refine L_val (v := .tuple #[.int .i64 x17, .agg #[.int .i64 x18, .bool x19, .bool x20, .bool x21, .bool x22, .bool x23, .bool x24, .bool x25, .bool x26]]) (y_entry (ev_tv rfl ((hag13 16 rfl).trans rfl)) hc25) ?_
      refine L_val (v := .int .i64 x17) (y_extract (ev_tv rfl rfl) rfl) ?_
      refine L_val (v := .agg #[.int .i64 x18, .bool x19, .bool x20, .bool x21, .bool x22, .bool x23, .bool x24, .bool x25, .bool x26]) (y_extract (ev_tv rfl rfl) rfl) ?_
      obtain ⟨b27, hb26⟩ : ∃ b27 : Nat, b27 = World.heapSize w16 := ⟨_, rfl⟩
      obtain ⟨w28, hw27⟩ : ∃ w28 : World, w28 = World.alloc w16 (.cells #[.int .i64 0, .bool false, .bool false, .bool false, .bool false, .bool false, .bool false, .bool false, .bool false] 64) := ⟨_, rfl⟩
      replace H := H b27 w28 hb26 hw27
      refine L_val (v := .pointer (some ⟨b27, 0, none⟩)) (y_alloc Try.type64 rfl rfl hb26 hw27) ?_
      refine L_val (v := .int .i64 x17) (y_assign (ev_tv rfl rfl)) ?_
      obtain ⟨hc28, H⟩ := H
      obtain ⟨w29, hw30⟩ : ∃ w29 : World, w29 = putCells w28 ⟨b27, 0, none⟩ [.int .i64 x18, .bool x19, .bool x20, .bool x21, .bool x22, .bool x23, .bool x24, .bool x25, .bool x26] 0 := ⟨_, rfl⟩
      replace H := H w29 hw30
      refine L_skip (y_storeAgg Try.type64 rfl (by intro v hv; simp only [List.mem_cons, List.not_mem_nil, or_false] at hv; rcases hv with rfl | rfl | rfl | rfl | rfl | rfl | rfl | rfl | rfl <;> rfl) (ev_tv rfl rfl) (ev_tv rfl rfl) hc28 hw30) ?_
      refine l_nil ?_
      refine then_norm ?_
      refine hK24 _ _ ?_
      clear hK24
      refine c_seq ?_
      intro K31 hK31
      refine c_region ?_
      refine L_val (v := .int .i64 a_h2) (y_move (ev_tv rfl ((hag13 1 rfl).trans rfl))) ?_
      refine L_val (v := .pointer (some ⟨b27, 0 + 1, none⟩)) (Try.fa64_1 (ev_tv rfl rfl)) ?_
      obtain ⟨hi32, hi33, H⟩ := H
      refine L_val (v := .pointer (some ⟨b27, 0 + 1 + (a_h2 : Int).toNat * 1, none⟩)) (y_ixA Try.underlying62 Try.type4 rfl (ev_tv rfl rfl) (ev_tv rfl rfl) hi32 hi33) ?_
      obtain ⟨x30, hc34, H⟩ := H
      refine L_val (v := .bool x30) (y_load Try.underlying4 rfl (ev_tv rfl rfl) hc34) ?_
      refine l_nil ?_
      refine then_norm ?_
      refine hK31 _ _ ?_
      clear hK31
      rcases Bool.eq_false_or_eq_true x30 with hb35 | hb35
      · replace H := H.1 hb35
        have hq36 : Value.bool (x30) = Value.bool true := congrArg Value.bool hb35
        refine cond_t (ev_tv rfl hq36) ?_
        refine c_region ?_
        refine L_val (v := .slice v11 v11l v11c) (y_move (ev_tv rfl hs17)) ?_
        refine L_val (v := .int .i64 x17) (y_move (ev_tv rfl rfl)) ?_
        obtain ⟨b31, hb37⟩ : ∃ b31 : Nat, b31 = World.heapSize w29 := ⟨_, rfl⟩
        obtain ⟨w32, hw38⟩ : ∃ w32 : World, w32 = World.alloc w29 (.cells #[.int .i64 x17] 3) := ⟨_, rfl⟩
        replace H := H b31 w32 hb37 hw38
        refine L_val (v := .slice (some ⟨b31, 0, none⟩) 1 1) (y_buildSlice (parts_ev1 (ev_tv rfl rfl)) hb37 hw38 (by kernel_rfl)) ?_
        obtain ⟨x34, x34l, x34c, w33, hc39, H⟩ := H
        refine L_val (v := .slice x34 x34l x34c) (y_bi_append (map_ev2 (ev_tv rfl rfl) (ev_tv rfl rfl)) hc39) ?_
        refine L_val (v := .slice x34 x34l x34c) (y_assign (ev_tv rfl rfl)) ?_
        refine l_nil ?_
        refine block_norm ?_
        refine then_norm ?_
        obtain ⟨m35, hm40, H⟩ := H
        exact ⟨_, rfl, (by repeat (first | exact agree_refl | exact hag13 | refine agree_upd rfl ?_ | refine agree_via hag13 rfl ?_)), m35, hm40, _, _, _, rfl, H⟩
      · replace H := H.2 hb35
        have hq36 : Value.bool (x30) = Value.bool false := congrArg Value.bool hb35
        refine cond_f (ev_tv rfl hq36) ?_
        refine c_skip ?_
        refine block_norm ?_
        refine then_norm ?_
        obtain ⟨m36, hm41, H⟩ := H
        exact ⟨_, rfl, (by repeat (first | exact agree_refl | exact hag13 | refine agree_upd rfl ?_ | refine agree_via hag13 rfl ?_)), m36, hm41, _, _, _, hs17, H⟩
    · replace H := H.2 hb22
      have hq23 : Value.bool (nb14) = Value.bool false := congrArg Value.bool hb22
      refine cond_f (ev_tv rfl hq23) ?_
      refine c_exit ?_
      refine then_exit ?_
      refine then_exit ?_
      refine block_hit ?_
      refine then_norm ?_
      refine hK7 _ _ ?_
      clear hK7
      refine c_seq ?_
      intro K42 hK42
      refine c_region ?_
      refine L_val (v := .slice v11 v11l v11c) (y_move (ev_tv rfl hs17)) ?_
      refine L_call (y_call Try.call22 (map_ev1 (ev_tv rfl rfl)) ev_f) (Calls.mono H ?_)
      clear H
      rintro _ w37 ⟨rfl, H⟩
      refine ⟨_, rfl, ?_⟩
      refine l_nil ?_
      refine then_norm ?_
      refine hK42 _ _ ?_
      clear hK42
      refine c_seq ?_
      intro K43 hK43
      refine c_region ?_
      refine L_val (v := .slice v11 v11l v11c) (y_move (ev_tv rfl hs17)) ?_
      refine L_val (v := .slice v11 v11l v11c) (y_assign (ev_tv rfl rfl)) ?_
      refine l_nil ?_
      refine then_norm ?_
      refine hK43 _ _ ?_
      clear hK43
      refine c_ret ?_
      exact body_1 rfl (ev_tv rfl rfl) H
  · replace H := H.2 hb4
    have hq5 : Value.bool (x3) = Value.bool false := congrArg Value.bool hb4
    refine L_val (v := .bool true) (y_not_f (ev_tv rfl hq5)) ?_
    refine l_nil ?_
    refine then_norm ?_
    refine hK3 _ _ ?_
    clear hK3
    refine cond_t (ev_tv rfl rfl) ?_
    refine c_seq ?_
    intro K44 hK44
    refine c_region ?_
    refine L_val (v := .slice none 0 0) (y_assign ev_c) ?_
    refine l_nil ?_
    refine then_norm ?_
    refine hK44 _ _ ?_
    clear hK44
    refine c_ret ?_
    refine then_ret ?_
    exact body_1 rfl (ev_tv rfl rfl) H

/-- (parapet/tlb.Tlb).Over -/
def Vc12 (a_t1 : Option Addr) (a_id2 : Int) (w : World) (R : Ending → World → Prop) : Prop :=
  (((a_t1 = none) → R (.returned (.bool false)) w) ∧ ((a_t1 ≠ none) → ((((a_id2 : Int) < 1) → R (.returned (.bool false)) w) ∧ ((¬ ((a_id2 : Int) < 1)) → (∃ (b3 o4 : Nat), a_t1 = some ⟨b3, o4, none⟩ ∧ (∃ x5 : Int, World.cell? w ⟨b3, o4 + 2, none⟩ = some (.int .i64 x5) ∧ ((((x5 : Int) < a_id2) → R (.returned (.bool false)) w) ∧ ((¬ ((x5 : Int) < a_id2)) → (∃ x6 : Option Nat, World.cell? w ⟨b3, o4 + 3, none⟩ = some (.map x6) ∧ (∃ x7 : Int, ∃ x8 : Bool, ∃ x9 : Bool, ∃ x10 : Bool, ∃ x11 : Bool, ∃ x12 : Bool, ∃ x13 : Bool, ∃ x14 : Bool, ∃ x15 : Bool, ∃ ok16 : Bool, (Instr.lookup 54 (.map x6) (.int .i64 a_id2) true).run Try.prog w = .ok (.tuple #[.agg #[.int .i64 x7, .bool x8, .bool x9, .bool x10, .bool x11, .bool x12, .bool x13, .bool x14, .bool x15], .bool ok16]) w ∧ (∀ (b17 : Nat) (w18 : World), b17 = World.heapSize w → w18 = World.alloc w (.cells #[.int .i64 0, .bool false, .bool false, .bool false, .bool false, .bool false, .bool false, .bool false, .bool false] 64) → ((∀ j, j < 9 → (World.cell? w18 (Addr.add ⟨b17, 0, none⟩ j)).isSome = true ∧ World.frozen? w18 (Addr.add ⟨b17, 0, none⟩ j) = false) ∧ ∀ w19 : World, w19 = putCells w18 ⟨b17, 0, none⟩ [.int .i64 x7, .bool x8, .bool x9, .bool x10, .bool x11, .bool x12, .bool x13, .bool x14, .bool x15] 0 → (((ok16 = true) → R (.returned (.bool false)) w19) ∧ ((ok16 = false) → R (.returned (.bool true)) w19))))))))))))))

theorem vc12 {a_t1 : Option Addr} {a_id2 : Int} {w : World} {R : Ending → World → Prop} (H : Vc12 a_t1 a_id2 w R) : Calls Try.prog 12 #[.pointer a_t1, .int .i64 a_id2] w R := by
  unfold Vc12 at H
  refine calls_start [.pointer a_t1, .int .i64 a_id2] Try.func12 rfl Try.ntmps12 rfl ?_
  refine c_seq ?_
  intro K1 hK1
  refine c_region ?_
  refine L_val (v := .bool false) (y_assign ev_c) ?_
  refine l_nil ?_
  refine then_norm ?_
  refine hK1 _ _ ?_
  clear hK1
  refine c_seq ?_
  intro K2 hK2
  refine c_seq ?_
  intro K3 hK3
  refine c_region ?_
  refine L_val (v := .pointer a_t1) (y_move (ev_tv rfl rfl)) ?_
  refine L_val (v := .bool (a_t1.isNone)) (y_peq Try.underlying24 (ev_tv rfl rfl) ev_c) ?_
  refine L_val (v := .bool (a_t1.isNone)) (y_move (ev_tv rfl rfl)) ?_
  rcases (Classical.em (a_t1 = none)) with hb4 | hb4
  · replace H := H.1 hb4
    have hq5 : Value.bool (a_t1.isNone) = Value.bool true := congrArg Value.bool (isn_t hb4)
    refine G_not (b' := true) (dj := 9) rfl rfl hq5 rfl ?_
    refine G_not (b' := true) (dj := 9) rfl rfl hq5 rfl ?_
    refine L_val (v := .bool true) (y_pick_t (ev_tv rfl hq5) ev_c) ?_
    refine L_val (v := .bool true) (y_move (ev_tv rfl rfl)) ?_
    refine G_not (b' := true) (dj := 13) rfl rfl rfl rfl ?_
    refine G_not (b' := true) (dj := 13) rfl rfl rfl rfl ?_
    refine G_not (b' := true) (dj := 13) rfl rfl rfl rfl ?_
    refine G_not (b' := true) (dj := 13) rfl rfl rfl rfl ?_
    refine G_not (b' := true) (dj := 13) rfl rfl rfl rfl ?_
    refine G_not (b' := true) (dj := 13) rfl rfl rfl rfl ?_
    refine L_val (v := .bool true) (y_pick_t (ev_tv rfl rfl) ev_c) ?_
    refine l_nil ?_
    refine then_norm ?_
    refine hK3 _ _ ?_
    clear hK3
    refine cond_t (ev_tv rfl rfl) ?_
    refine c_seq ?_
    intro K6 hK6
    refine c_region ?_
    refine L_val (v := .bool false) (y_assign ev_c) ?_
    refine l_nil ?_
    refine then_norm ?_
    refine hK6 _ _ ?_
    clear hK6
    refine c_ret ?_
    refine then_ret ?_
    exact body_1 rfl (ev_tv rfl rfl) H
  · replace H := H.2 hb4
    have hq5 : Value.bool (a_t1.isNone) = Value.bool false := congrArg Value.bool (isn_f hb4)
    refine G_val (dj := 9) rfl rfl hq5 (v := .int .i64 a_id2) (y_move (ev_tv rfl rfl)) ?_
    refine G_val (dj := 9) rfl rfl hq5 (v := .bool (decide ((a_id2 : Int) < 1))) (y_lss (ev_tv rfl rfl) ev_c) ?_
    refine L_val (v := .bool (decide ((a_id2 : Int) < 1))) (y_pick_f (ev_tv rfl hq5) (ev_tv rfl rfl)) ?_
    refine L_val (v := .bool (decide ((a_id2 : Int) < 1))) (y_move (ev_tv rfl rfl)) ?_
    rcases (Decidable.em ((a_id2 : Int) < 1)) with hb7 | hb7
    · replace H := H.1 hb7
      have hq8 : Value.bool (decide ((a_id2 : Int) < 1)) = Value.bool true := congrArg Value.bool (decide_eq_true hb7)
      refine G_not (b' := true) (dj := 13) rfl rfl hq8 rfl ?_
      refine G_not (b' := true) (dj := 13) rfl rfl hq8 rfl ?_
      refine G_not (b' := true) (dj := 13) rfl rfl hq8 rfl ?_
      refine G_not (b' := true) (dj := 13) rfl rfl hq8 rfl ?_
      refine G_not (b' := true) (dj := 13) rfl rfl hq8 rfl ?_
      refine G_not (b' := true) (dj := 13) rfl rfl hq8 rfl ?_
      refine L_val (v := .bool true) (y_pick_t (ev_tv rfl hq8) ev_c) ?_
      refine l_nil ?_
      refine then_norm ?_
      refine hK3 _ _ ?_
      clear hK3
      refine cond_t (ev_tv rfl rfl) ?_
      refine c_seq ?_
      intro K9 hK9
      refine c_region ?_
      refine L_val (v := .bool false) (y_assign ev_c) ?_
      refine l_nil ?_
      refine then_norm ?_
      refine hK9 _ _ ?_
      clear hK9
      refine c_ret ?_
      refine then_ret ?_
      exact body_1 rfl (ev_tv rfl rfl) H
    · replace H := H.2 hb7
      have hq8 : Value.bool (decide ((a_id2 : Int) < 1)) = Value.bool false := congrArg Value.bool (decide_eq_false hb7)
      refine G_val (dj := 13) rfl rfl hq8 (v := .int .i64 a_id2) (y_move (ev_tv rfl rfl)) ?_
      refine G_val (dj := 13) rfl rfl hq8 (v := .pointer a_t1) (y_move (ev_tv rfl rfl)) ?_
      obtain ⟨b3, o4, rfl, H⟩ := H
      refine G_val (dj := 13) rfl rfl hq8 (v := .pointer (some ⟨b3, o4, none⟩)) (y_nilCheck (ev_tv rfl rfl)) ?_
      refine G_val (dj := 13) rfl rfl hq8 (v := .pointer (some ⟨b3, o4 + 2, none⟩)) (Try.fa56_2 (ev_tv rfl rfl)) ?_
      obtain ⟨x5, hc10, H⟩ := H
      refine G_val (dj := 13) rfl rfl hq8 (v := .int .i64 x5) (y_load Try.underlying3 rfl (ev_tv rfl rfl) hc10) ?_
      refine G_val (dj := 13) rfl rfl hq8 (v := .bool (decide ((x5 : Int) < a_id2))) (y_gtr (ev_tv rfl rfl) (ev_tv rfl rfl)) ?_
      refine L_val (v := .bool (decide ((x5 : Int) < a_id2))) (y_pick_f (ev_tv rfl hq8) (ev_tv rfl rfl)) ?_
      refine l_nil ?_
      refine then_norm ?_
      refine hK3 _ _ ?_
      clear hK3
      rcases (Decidable.em ((x5 : Int) < a_id2)) with hb11 | hb11
      · replace H := H.1 hb11
        have hq12 : Value.bool (decide ((x5 : Int) < a_id2)) = Value.bool true := congrArg Value.bool (decide_eq_true hb11)
        refine cond_t (ev_tv rfl hq12) ?_
        refine c_seq ?_
        intro K13 hK13
        refine c_region ?_
        refine L_val (v := .bool false) (y_assign ev_c) ?_
        refine l_nil ?_
        refine then_norm ?_
        refine hK13 _ _ ?_
        clear hK13
        refine c_ret ?_
        refine then_ret ?_
        exact body_1 rfl (ev_tv rfl rfl) H
      · replace H := H.2 hb11
        have hq12 : Value.bool (decide ((x5 : Int) < a_id2)) = Value.bool false := congrArg Value.bool (decide_eq_false hb11)
        refine cond_f (ev_tv rfl hq12) ?_
        refine c_skip ?_
        refine then_norm ?_
        refine hK2 _ _ ?_
        clear hK2
        refine c_seq ?_
        intro K14 hK14
        refine c_region ?_
        refine L_val (v := .pointer (some ⟨b3, o4, none⟩)) (y_move (ev_tv rfl rfl)) ?_
        refine L_val (v := .pointer (some ⟨b3, o4, none⟩)) (y_nilCheck (ev_tv rfl rfl)) ?_
        refine L_val (v := .pointer (some ⟨b3, o4 + 3, none⟩)) (Try.fa56_3 (ev_tv rfl rfl)) ?_
        obtain ⟨x6, hc15, H⟩ := H
        refine L_val (v := .map x6) (y_load Try.underlying54 rfl (ev_tv rfl rfl) hc15) ?_
        refine L_val (v := .int .i64 a_id2) (y_move (ev_tv rfl rfl)) ?_
        obtain ⟨x7, x8, x9, x10, x11, x12, x13, x14, x15, ok16, hc16, H⟩ := H
        refine L_val (v := .tuple #[.agg #[.int .i64 x7, .bool x8, .bool x9, .bool x10, .bool x11, .bool x12, .bool x13, .bool x14, .bool x15], .bool ok16]) (y_lookup (ev_tv rfl rfl) (ev_tv rfl rfl) hc16) ?_
        refine L_val (v := .tuple #[.agg #[.int .i64 x7, .bool x8, .bool x9, .bool x10, .bool x11, .bool x12, .bool x13, .bool x14, .bool x15], .bool ok16]) (y_move (ev_tv rfl rfl)) ?_
        refine L_val (v := .agg #[.int .i64 x7, .bool x8, .bool x9, .bool x10, .bool x11, .bool x12, .bool x13, .bool x14, .bool x15]) (y_extract (ev_tv rfl rfl) rfl) ?_
        refine L_val (v := .bool ok16) (y_extract (ev_tv rfl rfl) rfl) ?_
        obtain ⟨b17, hb17⟩ : ∃ b17 : Nat, b17 = World.heapSize w := ⟨_, rfl⟩
        obtain ⟨w18, hw18⟩ : ∃ w18 : World, w18 = World.alloc w (.cells #[.int .i64 0, .bool false, .bool false, .bool false, .bool false, .bool false, .bool false, .bool false, .bool false] 64) := ⟨_, rfl⟩
        replace H := H b17 w18 hb17 hw18
        refine L_val (v := .pointer (some ⟨b17, 0, none⟩)) (y_alloc Try.type64 rfl rfl hb17 hw18) ?_
        obtain ⟨hc19, H⟩ := H
        obtain ⟨w19, hw21⟩ : ∃ w19 : World, w19 = putCells w18 ⟨b17, 0, none⟩ [.int .i64 x7, .bool x8, .bool x9, .bool x10, .bool x11, .bool x12, .bool x13, .bool x14, .bool x15] 0 := ⟨_, rfl⟩
        replace H := H w19 hw21
        refine L_skip (y_storeAgg Try.type64 rfl (by intro v hv; simp only [List.mem_cons, List.not_mem_nil, or_false] at hv; rcases hv with rfl | rfl | rfl | rfl | rfl | rfl | rfl | rfl | rfl <;> rfl) (ev_tv rfl rfl) (ev_tv rfl rfl) hc19 hw21) ?_
        refine L_val (v := .bool ok16) (y_assign (ev_tv rfl rfl)) ?_
        refine l_nil ?_
        refine then_norm ?_
        refine hK14 _ _ ?_
        clear hK14
        refine c_seq ?_
        intro K22 hK22
        refine c_region ?_
        refine L_val (v := .bool ok16) (y_move (ev_tv rfl rfl)) ?_
        rcases Bool.eq_false_or_eq_true ok16 with hb23 | hb23
        · replace H := H.1 hb23
          have hq24 : Value.bool (ok16) = Value.bool true := congrArg Value.bool hb23
          refine L_val (v := .bool false) (y_not_t (ev_tv rfl hq24)) ?_
          refine L_val (v := .bool false) (y_assign (ev_tv rfl rfl)) ?_
          refine l_nil ?_
          refine then_norm ?_
          refine hK22 _ _ ?_
          clear hK22
          refine c_ret ?_
          exact body_1 rfl (ev_tv rfl rfl) H
        · replace H := H.2 hb23
          have hq24 : Value.bool (ok16) = Value.bool false := congrArg Value.bool hb23
          refine L_val (v := .bool true) (y_not_f (ev_tv rfl hq24)) ?_
          refine L_val (v := .bool true) (y_assign (ev_tv rfl rfl)) ?_
          refine l_nil ?_
          refine then_norm ?_
          refine hK22 _ _ ?_
          clear hK22
          refine c_ret ?_
          exact body_1 rfl (ev_tv rfl rfl) H

/-- (parapet/tlb.Tlb).Handle -/
def Vc13 (a_t1 : Option Addr) (a_h2 : Int) (w : World) (R : Ending → World → Prop) : Prop :=
  (Calls Try.prog 11 #[.pointer a_t1, .int .i64 a_h2] w fun e w4 => ∃ x3 : Option Addr, ∃ x3l : Nat, ∃ x3c : Nat, e = .returned (.slice x3 x3l x3c) ∧ (∃ I5 : Nat → Int → World → Prop, (∃ m, I5 m 0 w4) ∧ ∀ (m7 : Nat) (v6 : Int) (w8 : World), I5 m7 v6 w8 → ((((v6 : Int) < ((x3l : Nat) : Int)) → (∃ (b9 o10 : Nat), x3 = some ⟨b9, o10, none⟩ ∧ ((0 : Int) ≤ v6 ∧ v6 < ((x3l : Nat) : Int) ∧ (∃ x11 : Int, World.cell? w8 ⟨b9, o10 + (v6 : Int).toNat, none⟩ = some (.int .i64 x11) ∧ (∃ (b12 o13 : Nat), a_t1 = some ⟨b12, o13, none⟩ ∧ (∃ x14 : Option Nat, World.cell? w8 ⟨b12, o13 + 3, none⟩ = some (.map x14) ∧ (∃ x15 : Int, ∃ x16 : Bool, ∃ x17 : Bool, ∃ x18 : Bool, ∃ x19 : Bool, ∃ x20 : Bool, ∃ x21 : Bool, ∃ x22 : Bool, ∃ x23 : Bool, (Instr.lookup 54 (.map x14) (.int .i64 x11) false).run Try.prog w8 = .ok (.agg #[.int .i64 x15, .bool x16, .bool x17, .bool x18, .bool x19, .bool x20, .bool x21, .bool x22, .bool x23]) w8 ∧ (∀ (b24 : Nat) (w25 : World), b24 = World.heapSize w8 → w25 = World.alloc w8 (.cells #[.int .i64 0, .bool false, .bool false, .bool false, .bool false, .bool false, .bool false, .bool false, .bool false] 64) → ((∀ j, j < 9 → (World.cell? w25 (Addr.add ⟨b24, 0, none⟩ j)).isSome = true ∧ World.frozen? w25 (Addr.add ⟨b24, 0, none⟩ j) = false) ∧ ∀ w26 : World, w26 = putCells w25 ⟨b24, 0, none⟩ [.int .i64 x15, .bool x16, .bool x17, .bool x18, .bool x19, .bool x20, .bool x21, .bool x22, .bool x23] 0 → (∃ x27 : Option Addr, ∃ x27l : Nat, ∃ x27c : Nat, World.cell? (w26.drew) ⟨b12, o13 + 1, none⟩ = some (.slice x27 x27l x27c) ∧ (∃ (b28 o29 : Nat), x27 = some ⟨b28, o29, none⟩ ∧ ((0 : Int) ≤ a_h2 ∧ a_h2 < ((x27l : Nat) : Int) ∧ (∃ x30 : Int, World.cell? (w26.drew) ⟨b24, 0, none⟩ = some (.int .i64 x30) ∧ (Calls Try.prog 23 #[.pointer (some ⟨b28, o29 + (a_h2 : Int).toNat * 2, none⟩), .int .i64 x30] (w26.drew) fun e w32 => ∃ x31 : Int, e = .returned (.int .i64 x31) ∧ (World.cell? w32 ⟨b12, o13 + 1, none⟩ = some (.slice x27 x27l x27c) ∧ ((0 : Int) ≤ a_h2 ∧ a_h2 < ((8 : Nat) : Int) ∧ ((World.cell? w32 ⟨b24, 0 + 1 + (a_h2 : Int).toNat * 1, none⟩).isSome = true ∧ World.frozen? w32 ⟨b24, 0 + 1 + (a_h2 : Int).toNat * 1, none⟩ = false ∧ ∀ w33 : World, w33 = World.setCell w32 ⟨b24, 0 + 1 + (a_h2 : Int).toNat * 1, none⟩ (.bool false) → (∃ x34 : Bool, ∃ x35 : Bool, ∃ x36 : Bool, ∃ x37 : Bool, ∃ x38 : Bool, ∃ x39 : Bool, ∃ x40 : Bool, ∃ x41 : Bool, CellsAt w33 ⟨b24, 0 + 1, none⟩ [.bool x34, .bool x35, .bool x36, .bool x37, .bool x38, .bool x39, .bool x40, .bool x41] ∧ (∃ q42 : Bool, (∀ w' : World, (eqGuard .eql 62 (.tmp 37) (.tmp 38) (.agg #[.bool x34, .bool x35, .bool x36, .bool x37, .bool x38, .bool x39, .bool x40, .bool x41]) (.agg #[.bool false, .bool false, .bool false, .bool false, .bool false, .bool false, .bool false, .bool false])).run Try.prog w' = .ok () w') ∧ (∀ w' : World, (binOp .eql 62 (.agg #[.bool x34, .bool x35, .bool x36, .bool x37, .bool x38, .bool x39, .bool x40, .bool x41]) (.agg #[.bool false, .bool false, .bool false, .bool false, .bool false, .bool false, .bool false, .bool false])).run Try.prog w' = .ok (.bool q42) w') ∧ (((q42 = true) → (∃ x43 : Option Nat, World.cell? w33 ⟨b12, o13 + 3, none⟩ = some (.map x43) ∧ (∃ w44 : World, (Builtin.delete_ #[54, 3] 0 #[.map x43, .int .i64 x11]).run Try.prog w33 = .ok (.tuple #[]) w44 ∧ (∀ r45 : Int, r45 = IntKind.wrap .i64 (v6 + 1) → (∃ m46, m46 < m7 ∧ I5 m46 r45 w44))))) ∧ ((q42 = false) → (∃ x47 : Option Nat, World.cell? (w33.drew) ⟨b12, o13 + 3, none⟩ = some (.map x47) ∧ (∃ x48 : Int, ∃ x49 : Bool, ∃ x50 : Bool, ∃ x51 : Bool, ∃ x52 : Bool, ∃ x53 : Bool, ∃ x54 : Bool, ∃ x55 : Bool, ∃ x56 : Bool, CellsAt (w33.drew) ⟨b24, 0, none⟩ [.int .i64 x48, .bool x49, .bool x50, .bool x51, .bool x52, .bool x53, .bool x54, .bool x55, .bool x56] ∧ (∃ w57 : World, (Instr.mapUpdate 54 (.map x47) (.int .i64 x11) (.agg #[.int .i64 x48, .bool x49, .bool x50, .bool x51, .bool x52, .bool x53, .bool x54, .bool x55, .bool x56])).run Try.prog (w33.drew) = .ok () w57 ∧ (∀ r58 : Int, r58 = IntKind.wrap .i64 (v6 + 1) → (∃ m59, m59 < m7 ∧ I5 m59 r58 w57)))))))))))))))))))))))))) ∧ ((¬ ((v6 : Int) < ((x3l : Nat) : Int))) → R (.returned (.int .i64 ((x3l : Nat) : Int))) w8))))

theorem vc13 {a_t1 : Option Addr} {a_h2 : Int} {w : World} {R : Ending → World → Prop} (H : Vc13 a_t1 a_h2 w R) : Calls Try.prog 13 #[.pointer a_t1, .int .i64 a_h2] w R := by
  unfold Vc13 at H
  refine calls_start [.pointer a_t1, .int .i64 a_h2] Try.func13 rfl Try.ntmps13 rfl ?_
  refine c_seq ?_
  intro K1 hK1
  refine c_region ?_
  refine L_val (v := .int .i64 0) (y_assign ev_c) ?_
  refine l_nil ?_
  refine then_norm ?_
  refine hK1 _ _ ?_
  clear hK1
  refine c_seq ?_
  intro K2 hK2
  refine c_region ?_
  refine L_val (v := .pointer a_t1) (y_move (ev_tv rfl rfl)) ?_
  refine L_val (v := .int .i64 a_h2) (y_move (ev_tv rfl rfl)) ?_
  refine L_call (y_call Try.call11 (map_ev2 (ev_tv rfl rfl) (ev_tv rfl rfl)) ev_f) (Calls.mono H ?_)
  clear H
  rintro _ w4 ⟨x3, x3l, x3c, rfl, H⟩
  refine ⟨_, rfl, ?_⟩
  refine L_val (v := .slice x3 x3l x3c) (y_assign (ev_tv rfl rfl)) ?_
  refine l_nil ?_
  refine then_norm ?_
  refine hK2 _ _ ?_
  clear hK2
  refine c_seq ?_
  intro K3 hK3
  refine c_seq ?_
  intro K4 hK4
  refine c_region ?_
  refine L_val (v := .slice x3 x3l x3c) (y_move (ev_tv rfl rfl)) ?_
  refine L_val (v := .int .i64 ((x3l : Nat) : Int)) (y_len Try.underlying23 rfl (map_ev1 (ev_tv rfl rfl))) ?_
  refine L_val (v := .int .i64 0) (y_move ev_c) ?_
  refine l_nil ?_
  refine then_norm ?_
  refine hK4 _ _ ?_
  clear hK4
  refine c_block ?_
  obtain ⟨I5, ⟨m9, HI10⟩, H⟩ := H
  refine loop_fr ([(7, 8), (14, 51)]) (fun m ff ww => ∃ (v6 : Int), ff 14 = (.int .i64 v6 : Value) ∧ I5 m v6 ww) m9 ⟨0, rfl, HI10⟩ ?_
  rintro m7 f6 w8 hag7 ⟨v6, hs11, HI8⟩
  replace H := H m7 v6 w8 HI8
  refine c_seq ?_
  intro K12 hK12
  refine c_region ?_
  refine L_val (v := .bool (decide ((v6 : Int) < ((x3l : Nat) : Int)))) (y_lss (ev_tv rfl hs11) (ev_tv rfl ((hag7 13 rfl).trans rfl))) ?_
  refine l_nil ?_
  refine then_norm ?_
  refine hK12 _ _ ?_
  clear hK12
  refine c_seq ?_
  intro K13 hK13
  rcases (Decidable.em ((v6 : Int) < ((x3l : Nat) : Int))) with hb14 | hb14
  · replace H := H.1 hb14
    have hq15 : Value.bool (decide ((v6 : Int) < ((x3l : Nat) : Int))) = Value.bool true := congrArg Value.bool (decide_eq_true hb14)
    refine cond_t (ev_tv rfl hq15) ?_
    refine c_skip ?_
    refine then_norm ?_
    refine hK13 _ _ ?_
    clear hK13
    refine c_seq ?_
    intro K16 hK16
    refine c_block ?_
    refine c_seq ?_
    intro K17 hK17
    refine c_region ?_
    obtain ⟨b9, o10, rfl, H⟩ := H
    obtain ⟨hi18, hi19, H⟩ := H
    refine L_val (v := .pointer (some ⟨b9, o10 + (v6 : Int).toNat, none⟩)) (y_ix1 Try.underlying23 Try.type3 rfl (ev_tv rfl ((hag7 12 rfl).trans rfl)) (ev_tv rfl hs11) hi18 hi19) ?_
    obtain ⟨x11, hc20, H⟩ := H
    refine L_val (v := .int .i64 x11) (y_load Try.underlying3 rfl (ev_tv rfl rfl) hc20) ?_
    refine L_val (v := .int .i64 x11) (y_assign (ev_tv rfl rfl)) ?_
    refine l_nil ?_
    refine then_norm ?_
    refine hK17 _ _ ?_
    clear hK17
    refine c_seq ?_
    intro K21 hK21
    refine c_region ?_
    refine L_val (v := .pointer a_t1) (y_move (ev_tv rfl ((hag7 0 rfl).trans rfl))) ?_
    obtain ⟨b12, o13, rfl, H⟩ := H
    refine L_val (v := .pointer (some ⟨b12, o13, none⟩)) (y_nilCheck (ev_tv rfl rfl)) ?_
    refine L_val (v := .pointer (some ⟨b12, o13 + 3, none⟩)) (Try.fa56_3 (ev_tv rfl rfl)) ?_
    obtain ⟨x14, hc22, H⟩ := H
    refine L_val (v := .map x14) (y_load Try.underlying54 rfl (ev_tv rfl rfl) hc22) ?_
    refine L_val (v := .int .i64 x11) (y_move (ev_tv rfl rfl)) ?_
    obtain ⟨x15, x16, x17, x18, x19, x20, x21, x22, x23, hc23, H⟩ := H
    refine L_val (v := .agg #[.int .i64 x15, .bool x16, .bool x17, .bool x18, .bool x19, .bool x20, .bool x21, .bool x22, .bool x23]) (y_lookup (ev_tv rfl rfl) (ev_tv rfl rfl) hc23) ?_
    obtain ⟨b24, hb24⟩ : ∃ b24 : Nat, b24 = World.heapSize w8 := ⟨_, rfl⟩
    obtain ⟨w25, hw25⟩ : ∃ w25 : World, w25 = World.alloc w8 (.cells #[.int .i64 0, .bool false, .bool false, .bool false, .bool false, .bool false, .bool false, .bool false, .bool false] 64) := ⟨_, rfl⟩
    replace H := H b24 w25 hb24 hw25
    refine L_val (v := .pointer (some ⟨b24, 0, none⟩)) (y_alloc Try.type64 rfl rfl hb24 hw25) ?_
    obtain ⟨hc26, H⟩ := H
    obtain ⟨w26, hw28⟩ : ∃ w26 : World, w26 = putCells w25 ⟨b24, 0, none⟩ [.int .i64 x15, .bool x16, .bool x17, .bool x18, .bool x19, .bool x20, .bool x21, .bool x22, .bool x23] 0 := ⟨_, rfl⟩
    replace H := H w26 hw28
    refine L_skip (y_storeAgg Try.type64 rfl (by intro v hv; simp only [List.mem_cons, List.not_mem_nil, or_false] at hv; rcases hv with rfl | rfl | rfl | rfl | rfl | rfl | rfl | rfl | rfl <;> rfl) (ev_tv rfl rfl) (ev_tv rfl rfl) hc26 hw28) ?_
    refine l_nil ?_
    refine then_norm ?_
    refine hK21 _ _ ?_
    clear hK21
    refine c_seq ?_
    intro K29 hK29
    refine D_start Try.mixed rfl [8] ?_
    refine start_keep fun hS => ?_
    refine D_pure (i := 0) (v := .pointer (some ⟨b12, o13, none⟩)) rfl (by kernel_rfl) (W_none rfl) (fun _ => y_move (ev_tv rfl ((hag7 0 rfl).trans rfl))) hS ?_
    intro hS
    refine D_pure (i := 1) (v := .pointer (some ⟨b12, o13, none⟩)) rfl (by kernel_rfl) (W_none rfl) (fun _ => y_nilCheck (ev_tv rfl rfl)) hS ?_
    intro hS
    refine D_pure (i := 2) (v := .pointer (some ⟨b12, o13 + 1, none⟩)) rfl (by kernel_rfl) (W_none rfl) (fun _ => Try.fa56_1 (ev_tv rfl rfl)) hS ?_
    intro hS
    refine D_pure (i := 4) (v := .int .i64 a_h2) rfl (by kernel_rfl) (W_none rfl) (fun _ => y_move (ev_tv rfl ((hag7 1 rfl).trans rfl))) hS ?_
    intro hS
    refine D_pure (i := 6) (v := .pointer (some ⟨b24, 0, none⟩)) rfl (by kernel_rfl) (W_none rfl) (fun _ => Try.fa64_0 (ev_tv rfl rfl)) hS ?_
    intro hS
    obtain ⟨x27, x27l, x27c, hc30, H⟩ := H
    refine D_read (i := 3) (v := .slice x27 x27l x27c) rfl (by kernel_rfl) (W_none rfl) (fun wx => World.cell? wx ⟨b12, o13 + 1, none⟩ = some (.slice x27 x27l x27c)) hc30 (fun _ hcx => y_load Try.underlying53 rfl (ev_tv rfl rfl) hcx) hS ?_
    intro hS
    obtain ⟨b28, o29, rfl, H⟩ := H
    obtain ⟨hi31, hi32, H⟩ := H
    refine D_pure (i := 5) (v := .pointer (some ⟨b28, o29 + (a_h2 : Int).toNat * 2, none⟩)) rfl (by kernel_rfl) (W_none rfl) (fun _ => y_ix Try.underlying53 Try.type59 rfl (ev_tv rfl rfl) (ev_tv rfl rfl) hi31 hi32) hS ?_
    intro hS
    obtain ⟨x30, hc33, H⟩ := H
    refine D_read (i := 7) (v := .int .i64 x30) rfl (by kernel_rfl) (W_none rfl) (fun wx => World.cell? wx ⟨b24, 0, none⟩ = some (.int .i64 x30)) hc33 (fun _ hcx => y_load Try.underlying3 rfl (ev_tv rfl rfl) hcx) hS ?_
    intro hS
    refine D_only (i := 8) (by kernel_rfl) rfl ?_
    refine O_call (i := 8) rfl (W_none rfl) (y_call Try.call23 (map_ev2 (ev_tv rfl rfl) (ev_tv rfl rfl)) ev_f) (Calls.mono H ?_)
    clear H
    rintro _ w32 ⟨x31, rfl, H⟩
    refine ⟨_, rfl, ?_⟩
    obtain ⟨hs55, H⟩ := H
    refine and_keep (SS_off (by kernel_rfl) (SS_on hs55 SS_nil)) fun hS => ?_
    refine D_done (by kernel_rfl) ?_
    refine then_norm ?_
    refine hK29 _ _ ?_
    clear hK29
    refine c_seq ?_
    intro K34 hK34
    refine c_region ?_
    refine L_val (v := .int .i64 a_h2) (y_move (ev_tv rfl ((hag7 1 rfl).trans rfl))) ?_
    refine L_val (v := .pointer (some ⟨b24, 0 + 1, none⟩)) (Try.fa64_1 (ev_tv rfl rfl)) ?_
    obtain ⟨hi35, hi36, H⟩ := H
    refine L_val (v := .pointer (some ⟨b24, 0 + 1 + (a_h2 : Int).toNat * 1, none⟩)) (y_ixA Try.underlying62 Try.type4 rfl (ev_tv rfl rfl) (ev_tv rfl rfl) hi35 hi36) ?_
    obtain ⟨hc37, hf38, H⟩ := H
    obtain ⟨w33, hw39⟩ : ∃ w33 : World, w33 = World.setCell w32 ⟨b24, 0 + 1 + (a_h2 : Int).toNat * 1, none⟩ (.bool false) := ⟨_, rfl⟩
    replace H := H w33 hw39
    refine L_skip (y_store Try.type4 rfl rfl (ev_tv rfl rfl) ev_c hc37 hf38 hw39) ?_
    refine l_nil ?_
    refine then_norm ?_
    refine hK34 _ _ ?_
    clear hK34
    refine c_seq ?_
    intro K40 hK40
    refine c_region ?_
    refine L_val (v := .pointer (some ⟨b24, 0 + 1, none⟩)) (Try.fa64_1 (ev_tv rfl rfl)) ?_
    obtain ⟨x34, x35, x36, x37, x38, x39, x40, x41, hc41, H⟩ := H
    refine L_val (v := .agg #[.bool x34, .bool x35, .bool x36, .bool x37, .bool x38, .bool x39, .bool x40, .bool x41]) (y_loadAgg Try.underlying62 rfl Try.type62 rfl (ev_tv rfl rfl) hc41) ?_
    refine L_val (v := .agg #[.bool false, .bool false, .bool false, .bool false, .bool false, .bool false, .bool false, .bool false]) (y_build rfl (by kernel_rfl)) ?_
    obtain ⟨q42, hg43, hc42, H⟩ := H
    refine L_val (v := .bool q42) (y_eqv (ev_tv rfl rfl) (ev_tv rfl rfl) (hg43 _) (hc42 _)) ?_
    refine l_nil ?_
    refine then_norm ?_
    refine hK40 _ _ ?_
    clear hK40
    rcases Bool.eq_false_or_eq_true q42 with hb44 | hb44
    · replace H := H.1 hb44
      have hq45 : Value.bool (q42) = Value.bool true := congrArg Value.bool hb44
      refine cond_t (ev_tv rfl hq45) ?_
      refine c_region ?_
      refine L_val (v := .pointer (some ⟨b12, o13, none⟩)) (y_move (ev_tv rfl ((hag7 0 rfl).trans rfl))) ?_
      refine L_val (v := .pointer (some ⟨b12, o13, none⟩)) (y_nilCheck (ev_tv rfl rfl)) ?_
      refine L_val (v := .pointer (some ⟨b12, o13 + 3, none⟩)) (Try.fa56_3 (ev_tv rfl rfl)) ?_
      obtain ⟨x43, hc46, H⟩ := H
      refine L_val (v := .map x43) (y_load Try.underlying54 rfl (ev_tv rfl rfl) hc46) ?_
      refine L_val (v := .int .i64 x11) (y_move (ev_tv rfl rfl)) ?_
      obtain ⟨w44, hc47, H⟩ := H
      refine L_valn (v := .tuple #[]) (y_bi_delete (map_ev2 (ev_tv rfl rfl) (ev_tv rfl rfl)) hc47) ?_
      refine l_nil ?_
      refine block_norm ?_
      refine then_norm ?_
      refine hK16 _ _ ?_
      clear hK16
      refine c_region ?_
      obtain ⟨r45, hr48⟩ : ∃ r45 : Int, r45 = IntKind.wrap .i64 (v6 + 1) := ⟨_, rfl⟩
      replace H := H r45 hr48
      refine L_val (v := .int .i64 r45) (y_add (ev_tv rfl hs11) ev_c hr48) ?_
      refine L_val (v := .int .i64 r45) (y_move (ev_tv rfl rfl)) ?_
      refine l_nil ?_
      refine then_norm ?_
      obtain ⟨m46, hm49, H⟩ := H
      exact ⟨_, rfl, (by repeat (first | exact agree_refl | exact hag7 | refine agree_upd rfl ?_ | refine agree_via hag7 rfl ?_)), m46, hm49, _, rfl, H⟩
    · replace H := H.2 hb44
      have hq45 : Value.bool (q42) = Value.bool false := congrArg Value.bool hb44
      refine cond_f (ev_tv rfl hq45) ?_
      refine D_start Try.mixed rfl [6] ?_
      refine start_keep fun hS => ?_
      refine D_pure (i := 0) (v := .pointer (some ⟨b12, o13, none⟩)) rfl (by kernel_rfl) (W_none rfl) (fun _ => y_move (ev_tv rfl ((hag7 0 rfl).trans rfl))) hS ?_
      intro hS
      refine D_pure (i := 1) (v := .pointer (some ⟨b12, o13, none⟩)) rfl (by kernel_rfl) (W_none rfl) (fun _ => y_nilCheck (ev_tv rfl rfl)) hS ?_
      intro hS
      refine D_pure (i := 2) (v := .pointer (some ⟨b12, o13 + 3, none⟩)) rfl (by kernel_rfl) (W_none rfl) (fun _ => Try.fa56_3 (ev_tv rfl rfl)) hS ?_
      intro hS
      refine D_pure (i := 4) (v := .int .i64 x11) rfl (by kernel_rfl) (W_none rfl) (fun _ => y_move (ev_tv rfl rfl)) hS ?_
      intro hS
      obtain ⟨x47, hc50, H⟩ := H
      refine D_read (i := 3) (v := .map x47) rfl (by kernel_rfl) (W_none rfl) (fun wx => World.cell? wx ⟨b12, o13 + 3, none⟩ = some (.map x47)) hc50 (fun _ hcx => y_load Try.underlying54 rfl (ev_tv rfl rfl) hcx) hS ?_
      intro hS
      obtain ⟨x48, x49, x50, x51, x52, x53, x54, x55, x56, hc51, H⟩ := H
      refine D_read (i := 5) (v := .agg #[.int .i64 x48, .bool x49, .bool x50, .bool x51, .bool x52, .bool x53, .bool x54, .bool x55, .bool x56]) rfl (by kernel_rfl) (W_none rfl) (fun wx => CellsAt wx ⟨b24, 0, none⟩ [.int .i64 x48, .bool x49, .bool x50, .bool x51, .bool x52, .bool x53, .bool x54, .bool x55, .bool x56]) hc51 (fun _ hcx => y_loadAgg Try.underlying64 rfl Try.type64 rfl (ev_tv rfl rfl) hcx) hS ?_
      intro hS
      refine D_only (i := 6) (by kernel_rfl) rfl ?_
      obtain ⟨w57, hw52, H⟩ := H
      refine O_skip (i := 6) rfl (W_none rfl) (y_mapUpdate (ev_tv rfl rfl) (ev_tv rfl rfl) (ev_tv rfl rfl) hw52) ?_
      refine and_keep (SS_off (by kernel_rfl) (SS_off (by kernel_rfl) SS_nil)) fun hS => ?_
      refine D_done (by kernel_rfl) ?_
      refine block_norm ?_
      refine then_norm ?_
      refine hK16 _ _ ?_
      clear hK16
      refine c_region ?_
      obtain ⟨r58, hr53⟩ : ∃ r58 : Int, r58 = IntKind.wrap .i64 (v6 + 1) := ⟨_, rfl⟩
      replace H := H r58 hr53
      refine L_val (v := .int .i64 r58) (y_add (ev_tv rfl hs11) ev_c hr53) ?_
      refine L_val (v := .int .i64 r58) (y_move (ev_tv rfl rfl)) ?_
      refine l_nil ?_
      refine then_norm ?_
      obtain ⟨m59, hm54, H⟩ := H
      exact ⟨_, rfl, (by repeat (first | exact agree_refl | exact hag7 | refine agree_upd rfl ?_ | refine agree_via hag7 rfl ?_)), m59, hm54, _, rfl, H⟩
  · replace H := H.2 hb14
    have hq15 : Value.bool (decide ((v6 : Int) < ((x3l : Nat) : Int))) = Value.bool false := congrArg Value.bool (decide_eq_false hb14)
    refine cond_f (ev_tv rfl hq15) ?_
    refine c_exit ?_
    refine then_exit ?_
    refine then_exit ?_
    refine block_hit ?_
    refine then_norm ?_
    refine hK3 _ _ ?_
    clear hK3
    refine c_seq ?_
    intro K56 hK56
    refine c_region ?_
    refine L_val (v := .slice x3 x3l x3c) (y_move (ev_tv rfl ((hag7 5 rfl).trans rfl))) ?_
    refine L_val (v := .int .i64 ((x3l : Nat) : Int)) (y_len Try.underlying23 rfl (map_ev1 (ev_tv rfl rfl))) ?_
    refine L_val (v := .int .i64 ((x3l : Nat) : Int)) (y_assign (ev_tv rfl rfl)) ?_
    refine l_nil ?_
    refine then_norm ?_
    refine hK56 _ _ ?_
    clear hK56
    refine c_ret ?_
    exact body_1 rfl (ev_tv rfl rfl) H

/-- (parapet/tlb.Tlb).Kept -/
def Vc14 (a_t1 : Option Addr) (a_h2 : Int) (w : World) (R : Ending → World → Prop) : Prop :=
  (Calls Try.prog 20 #[.pointer a_t1, .int .i64 a_h2] w fun e w4 => ∃ x3 : Bool, e = .returned (.bool x3) ∧ (((x3 = true) → (∃ (b6 o7 : Nat), a_t1 = some ⟨b6, o7, none⟩ ∧ (∃ x8 : Option Addr, ∃ x8l : Nat, ∃ x8c : Nat, World.cell? w4 ⟨b6, o7 + 1, none⟩ = some (.slice x8 x8l x8c) ∧ (∃ (b9 o10 : Nat), x8 = some ⟨b9, o10, none⟩ ∧ ((0 : Int) ≤ a_h2 ∧ a_h2 < ((x8l : Nat) : Int) ∧ (∃ x11 : Option Addr, ∃ x11l : Nat, ∃ x11c : Nat, World.cell? w4 ⟨b9, o10 + (a_h2 : Int).toNat * 2 + 1, none⟩ = some (.slice x11 x11l x11c) ∧ (Calls Try.prog 24 #[.slice x11 x11l x11c] w4 fun e w13 => ∃ x12 : Option Addr, ∃ x12l : Nat, ∃ x12c : Nat, e = .returned (.slice x12 x12l x12c) ∧ R (.returned (.slice x12 x12l x12c)) w13))))))) ∧ ((x3 = false) → R (.returned (.slice none 0 0)) w4)))

theorem vc14 {a_t1 : Option Addr} {a_h2 : Int} {w : World} {R : Ending → World → Prop} (H : Vc14 a_t1 a_h2 w R) : Calls Try.prog 14 #[.pointer a_t1, .int .i64 a_h2] w R := by
  unfold Vc14 at H
  refine calls_start [.pointer a_t1, .int .i64 a_h2] Try.func14 rfl Try.ntmps14 rfl ?_
  refine c_seq ?_
  intro K1 hK1
  refine c_region ?_
  refine L_val (v := .slice none 0 0) (y_assign ev_c) ?_
  refine l_nil ?_
  refine then_norm ?_
  refine hK1 _ _ ?_
  clear hK1
  refine c_seq ?_
  intro K2 hK2
  refine c_seq ?_
  intro K3 hK3
  refine c_region ?_
  refine L_val (v := .pointer a_t1) (y_move (ev_tv rfl rfl)) ?_
  refine L_val (v := .int .i64 a_h2) (y_move (ev_tv rfl rfl)) ?_
  refine L_call (y_call Try.call20 (map_ev2 (ev_tv rfl rfl) (ev_tv rfl rfl)) ev_f) (Calls.mono H ?_)
  clear H
  rintro _ w4 ⟨x3, rfl, H⟩
  refine ⟨_, rfl, ?_⟩
  rcases Bool.eq_false_or_eq_true x3 with hb4 | hb4
  · replace H := H.1 hb4
    have hq5 : Value.bool (x3) = Value.bool true := congrArg Value.bool hb4
    refine L_val (v := .bool false) (y_not_t (ev_tv rfl hq5)) ?_
    refine l_nil ?_
    refine then_norm ?_
    refine hK3 _ _ ?_
    clear hK3
    refine cond_f (ev_tv rfl rfl) ?_
    refine c_skip ?_
    refine then_norm ?_
    refine hK2 _ _ ?_
    clear hK2
    refine c_seq ?_
    intro K6 hK6
    refine c_region ?_
    refine L_val (v := .pointer a_t1) (y_move (ev_tv rfl rfl)) ?_
    obtain ⟨b6, o7, rfl, H⟩ := H
    refine L_val (v := .pointer (some ⟨b6, o7, none⟩)) (y_nilCheck (ev_tv rfl rfl)) ?_
    refine L_val (v := .pointer (some ⟨b6, o7 + 1, none⟩)) (Try.fa56_1 (ev_tv rfl rfl)) ?_
    obtain ⟨x8, x8l, x8c, hc7, H⟩ := H
    refine L_val (v := .slice x8 x8l x8c) (y_load Try.underlying53 rfl (ev_tv rfl rfl) hc7) ?_
    refine L_val (v := .int .i64 a_h2) (y_move (ev_tv rfl rfl)) ?_
    obtain ⟨b9, o10, rfl, H⟩ := H
    obtain ⟨hi8, hi9, H⟩ := H
    refine L_val (v := .pointer (some ⟨b9, o10 + (a_h2 : Int).toNat * 2, none⟩)) (y_ix Try.underlying53 Try.type59 rfl (ev_tv rfl rfl) (ev_tv rfl rfl) hi8 hi9) ?_
    refine L_val (v := .pointer (some ⟨b9, o10 + (a_h2 : Int).toNat * 2 + 1, none⟩)) (Try.fa59_1 (ev_tv rfl rfl)) ?_
    obtain ⟨x11, x11l, x11c, hc10, H⟩ := H
    refine L_val (v := .slice x11 x11l x11c) (y_load Try.underlying40 rfl (ev_tv rfl rfl) hc10) ?_
    refine L_call (y_call Try.call24 (map_ev1 (ev_tv rfl rfl)) ev_f) (Calls.mono H ?_)
    clear H
    rintro _ w13 ⟨x12, x12l, x12c, rfl, H⟩
    refine ⟨_, rfl, ?_⟩
    refine L_val (v := .slice x12 x12l x12c) (y_assign (ev_tv rfl rfl)) ?_
    refine l_nil ?_
    refine then_norm ?_
    refine hK6 _ _ ?_
    clear hK6
    refine c_ret ?_
    exact body_1 rfl (ev_tv rfl rfl) H
  · replace H := H.2 hb4
    have hq5 : Value.bool (x3) = Value.bool false := congrArg Value.bool hb4
    refine L_val (v := .bool true) (y_not_f (ev_tv rfl hq5)) ?_
    refine l_nil ?_
    refine then_norm ?_
    refine hK3 _ _ ?_
    clear hK3
    refine cond_t (ev_tv rfl rfl) ?_
    refine c_seq ?_
    intro K11 hK11
    refine c_region ?_
    refine L_val (v := .slice none 0 0) (y_assign ev_c) ?_
    refine l_nil ?_
    refine then_norm ?_
    refine hK11 _ _ ?_
    clear hK11
    refine c_ret ?_
    refine then_ret ?_
    exact body_1 rfl (ev_tv rfl rfl) H

/-- (parapet/tlb.Tlb).Flush -/
def Vc15 (a_t1 : Option Addr) (a_h2 : Int) (a_space3 : Int) (w : World) (R : Ending → World → Prop) : Prop :=
  (Calls Try.prog 20 #[.pointer a_t1, .int .i64 a_h2] w fun e w5 => ∃ x4 : Bool, e = .returned (.bool x4) ∧ (((x4 = true) → (∃ (b7 o8 : Nat), a_t1 = some ⟨b7, o8, none⟩ ∧ (∃ x9 : Option Addr, ∃ x9l : Nat, ∃ x9c : Nat, World.cell? w5 ⟨b7, o8 + 1, none⟩ = some (.slice x9 x9l x9c) ∧ (∃ (b10 o11 : Nat), x9 = some ⟨b10, o11, none⟩ ∧ ((0 : Int) ≤ a_h2 ∧ a_h2 < ((x9l : Nat) : Int) ∧ (Calls Try.prog 23 #[.pointer (some ⟨b10, o11 + (a_h2 : Int).toNat * 2, none⟩), .int .i64 a_space3] w5 fun e w13 => ∃ x12 : Int, e = .returned (.int .i64 x12) ∧ R (.returned (.int .i64 x12)) w13)))))) ∧ ((x4 = false) → R (.returned (.int .i64 0)) w5)))

theorem vc15 {a_t1 : Option Addr} {a_h2 : Int} {a_space3 : Int} {w : World} {R : Ending → World → Prop} (H : Vc15 a_t1 a_h2 a_space3 w R) : Calls Try.prog 15 #[.pointer a_t1, .int .i64 a_h2, .int .i64 a_space3] w R := by
  unfold Vc15 at H
  refine calls_start [.pointer a_t1, .int .i64 a_h2, .int .i64 a_space3] Try.func15 rfl Try.ntmps15 rfl ?_
  refine c_seq ?_
  intro K1 hK1
  refine c_region ?_
  refine L_val (v := .int .i64 0) (y_assign ev_c) ?_
  refine l_nil ?_
  refine then_norm ?_
  refine hK1 _ _ ?_
  clear hK1
  refine c_seq ?_
  intro K2 hK2
  refine c_seq ?_
  intro K3 hK3
  refine c_region ?_
  refine L_val (v := .pointer a_t1) (y_move (ev_tv rfl rfl)) ?_
  refine L_val (v := .int .i64 a_h2) (y_move (ev_tv rfl rfl)) ?_
  refine L_call (y_call Try.call20 (map_ev2 (ev_tv rfl rfl) (ev_tv rfl rfl)) ev_f) (Calls.mono H ?_)
  clear H
  rintro _ w5 ⟨x4, rfl, H⟩
  refine ⟨_, rfl, ?_⟩
  rcases Bool.eq_false_or_eq_true x4 with hb4 | hb4
  · replace H := H.1 hb4
    have hq5 : Value.bool (x4) = Value.bool true := congrArg Value.bool hb4
    refine L_val (v := .bool false) (y_not_t (ev_tv rfl hq5)) ?_
    refine l_nil ?_
    refine then_norm ?_
    refine hK3 _ _ ?_
    clear hK3
    refine cond_f (ev_tv rfl rfl) ?_
    refine c_skip ?_
    refine then_norm ?_
    refine hK2 _ _ ?_
    clear hK2
    refine c_seq ?_
    intro K6 hK6
    refine c_region ?_
    refine L_val (v := .pointer a_t1) (y_move (ev_tv rfl rfl)) ?_
    obtain ⟨b7, o8, rfl, H⟩ := H
    refine L_val (v := .pointer (some ⟨b7, o8, none⟩)) (y_nilCheck (ev_tv rfl rfl)) ?_
    refine L_val (v := .pointer (some ⟨b7, o8 + 1, none⟩)) (Try.fa56_1 (ev_tv rfl rfl)) ?_
    obtain ⟨x9, x9l, x9c, hc7, H⟩ := H
    refine L_val (v := .slice x9 x9l x9c) (y_load Try.underlying53 rfl (ev_tv rfl rfl) hc7) ?_
    refine L_val (v := .int .i64 a_h2) (y_move (ev_tv rfl rfl)) ?_
    obtain ⟨b10, o11, rfl, H⟩ := H
    obtain ⟨hi8, hi9, H⟩ := H
    refine L_val (v := .pointer (some ⟨b10, o11 + (a_h2 : Int).toNat * 2, none⟩)) (y_ix Try.underlying53 Try.type59 rfl (ev_tv rfl rfl) (ev_tv rfl rfl) hi8 hi9) ?_
    refine L_val (v := .int .i64 a_space3) (y_move (ev_tv rfl rfl)) ?_
    refine L_call (y_call Try.call23 (map_ev2 (ev_tv rfl rfl) (ev_tv rfl rfl)) ev_f) (Calls.mono H ?_)
    clear H
    rintro _ w13 ⟨x12, rfl, H⟩
    refine ⟨_, rfl, ?_⟩
    refine L_val (v := .int .i64 x12) (y_assign (ev_tv rfl rfl)) ?_
    refine l_nil ?_
    refine then_norm ?_
    refine hK6 _ _ ?_
    clear hK6
    refine c_ret ?_
    exact body_1 rfl (ev_tv rfl rfl) H
  · replace H := H.2 hb4
    have hq5 : Value.bool (x4) = Value.bool false := congrArg Value.bool hb4
    refine L_val (v := .bool true) (y_not_f (ev_tv rfl hq5)) ?_
    refine l_nil ?_
    refine then_norm ?_
    refine hK3 _ _ ?_
    clear hK3
    refine cond_t (ev_tv rfl rfl) ?_
    refine c_seq ?_
    intro K10 hK10
    refine c_region ?_
    refine L_val (v := .int .i64 0) (y_assign ev_c) ?_
    refine l_nil ?_
    refine then_norm ?_
    refine hK10 _ _ ?_
    clear hK10
    refine c_ret ?_
    refine then_ret ?_
    exact body_1 rfl (ev_tv rfl rfl) H

/-- (parapet/tlb.Tlb).Look -/
def Vc16 (a_t1 : Option Addr) (a_h2 : Int) (a_k3 : Int) (a_k4 : Int) (w : World) (R : Ending → World → Prop) : Prop :=
  (∀ (b5 : Nat) (w6 : World), b5 = World.heapSize w → w6 = World.alloc w (.cells #[.int .i64 a_k3, .int .i64 a_k4] 31) → (Calls Try.prog 20 #[.pointer a_t1, .int .i64 a_h2] w6 fun e w8 => ∃ x7 : Bool, e = .returned (.bool x7) ∧ (((x7 = true) → (∃ (b10 o11 : Nat), a_t1 = some ⟨b10, o11, none⟩ ∧ (∃ x12 : Option Addr, ∃ x12l : Nat, ∃ x12c : Nat, World.cell? (w8.drew) ⟨b10, o11 + 1, none⟩ = some (.slice x12 x12l x12c) ∧ (∃ (b13 o14 : Nat), x12 = some ⟨b13, o14, none⟩ ∧ ((0 : Int) ≤ a_h2 ∧ a_h2 < ((x12l : Nat) : Int) ∧ (∃ x15 : Option Nat, World.cell? (w8.drew) ⟨b13, o14 + (a_h2 : Int).toNat * 2, none⟩ = some (.map x15) ∧ (∃ x16 : Int, ∃ x17 : Int, CellsAt (w8.drew) ⟨b5, 0, none⟩ [.int .i64 x16, .int .i64 x17] ∧ (∃ x18 : Int, ∃ ok19 : Bool, (Instr.lookup 57 (.map x15) (.agg #[.int .i64 x16, .int .i64 x17]) true).run Try.prog (w8.drew) = .ok (.tuple #[.int .u32 x18, .bool ok19]) (w8.drew) ∧ R (.returned (.tuple #[.int .u32 x18, .bool ok19])) (w8.drew))))))))) ∧ ((x7 = false) → R (.returned (.tuple #[.int .u32 0, .bool false])) w8))))

theorem vc16 {a_t1 : Option Addr} {a_h2 : Int} {a_k3 : Int} {a_k4 : Int} {w : World} {R : Ending → World → Prop} (H : Vc16 a_t1 a_h2 a_k3 a_k4 w R) : Calls Try.prog 16 #[.pointer a_t1, .int .i64 a_h2, .agg #[.int .i64 a_k3, .int .i64 a_k4]] w R := by
  unfold Vc16 at H
  refine calls_start [.pointer a_t1, .int .i64 a_h2, .agg #[.int .i64 a_k3, .int .i64 a_k4]] Try.func16 rfl Try.ntmps16 rfl ?_
  refine c_seq ?_
  intro K1 hK1
  refine c_region ?_
  obtain ⟨b5, hb2⟩ : ∃ b5 : Nat, b5 = World.heapSize w := ⟨_, rfl⟩
  obtain ⟨w6, hw3⟩ : ∃ w6 : World, w6 = World.alloc w (.cells #[.int .i64 a_k3, .int .i64 a_k4] 31) := ⟨_, rfl⟩
  replace H := H b5 w6 hb2 hw3
  refine L_val (v := .pointer (some ⟨b5, 0, none⟩)) (y_box (ev_tv rfl rfl) rfl hb2 hw3) ?_
  refine L_val (v := .int .u32 0) (y_assign ev_c) ?_
  refine L_val (v := .bool false) (y_assign ev_c) ?_
  refine l_nil ?_
  refine then_norm ?_
  refine hK1 _ _ ?_
  clear hK1
  refine c_seq ?_
  intro K4 hK4
  refine c_seq ?_
  intro K5 hK5
  refine c_region ?_
  refine L_val (v := .pointer a_t1) (y_move (ev_tv rfl rfl)) ?_
  refine L_val (v := .int .i64 a_h2) (y_move (ev_tv rfl rfl)) ?_
  refine L_call (y_call Try.call20 (map_ev2 (ev_tv rfl rfl) (ev_tv rfl rfl)) ev_f) (Calls.mono H ?_)
  clear H
  rintro _ w8 ⟨x7, rfl, H⟩
  refine ⟨_, rfl, ?_⟩
  rcases Bool.eq_false_or_eq_true x7 with hb6 | hb6
  · replace H := H.1 hb6
    have hq7 : Value.bool (x7) = Value.bool true := congrArg Value.bool hb6
    refine L_val (v := .bool false) (y_not_t (ev_tv rfl hq7)) ?_
    refine l_nil ?_
    refine then_norm ?_
    refine hK5 _ _ ?_
    clear hK5
    refine cond_f (ev_tv rfl rfl) ?_
    refine c_skip ?_
    refine then_norm ?_
    refine hK4 _ _ ?_
    clear hK4
    refine c_seq ?_
    intro K8 hK8
    refine D_start Try.mixed rfl [] ?_
    refine start_keep fun hS => ?_
    refine D_pure (i := 0) (v := .pointer a_t1) rfl (by kernel_rfl) (W_none rfl) (fun _ => y_move (ev_tv rfl rfl)) hS ?_
    intro hS
    obtain ⟨b10, o11, rfl, H⟩ := H
    refine D_pure (i := 1) (v := .pointer (some ⟨b10, o11, none⟩)) rfl (by kernel_rfl) (W_none rfl) (fun _ => y_nilCheck (ev_tv rfl rfl)) hS ?_
    intro hS
    refine D_pure (i := 2) (v := .pointer (some ⟨b10, o11 + 1, none⟩)) rfl (by kernel_rfl) (W_none rfl) (fun _ => Try.fa56_1 (ev_tv rfl rfl)) hS ?_
    intro hS
    refine D_pure (i := 4) (v := .int .i64 a_h2) rfl (by kernel_rfl) (W_none rfl) (fun _ => y_move (ev_tv rfl rfl)) hS ?_
    intro hS
    obtain ⟨x12, x12l, x12c, hc9, H⟩ := H
    refine D_read (i := 3) (v := .slice x12 x12l x12c) rfl (by kernel_rfl) (W_none rfl) (fun wx => World.cell? wx ⟨b10, o11 + 1, none⟩ = some (.slice x12 x12l x12c)) hc9 (fun _ hcx => y_load Try.underlying53 rfl (ev_tv rfl rfl) hcx) hS ?_
    intro hS
    obtain ⟨b13, o14, rfl, H⟩ := H
    obtain ⟨hi10, hi11, H⟩ := H
    refine D_pure (i := 5) (v := .pointer (some ⟨b13, o14 + (a_h2 : Int).toNat * 2, none⟩)) rfl (by kernel_rfl) (W_none rfl) (fun _ => y_ix Try.underlying53 Try.type59 rfl (ev_tv rfl rfl) (ev_tv rfl rfl) hi10 hi11) hS ?_
    intro hS
    refine D_pure (i := 6) (v := .pointer (some ⟨b13, o14 + (a_h2 : Int).toNat * 2, none⟩)) rfl (by kernel_rfl) (W_none rfl) (fun _ => Try.fa59_0 (ev_tv rfl rfl)) hS ?_
    intro hS
    obtain ⟨x15, hc12, H⟩ := H
    refine D_read (i := 7) (v := .map x15) rfl (by kernel_rfl) (W_none rfl) (fun wx => World.cell? wx ⟨b13, o14 + (a_h2 : Int).toNat * 2, none⟩ = some (.map x15)) hc12 (fun _ hcx => y_load Try.underlying57 rfl (ev_tv rfl rfl) hcx) hS ?_
    intro hS
    obtain ⟨x16, x17, hc13, H⟩ := H
    refine D_read (i := 8) (v := .agg #[.int .i64 x16, .int .i64 x17]) rfl (by kernel_rfl) (W_none rfl) (fun wx => CellsAt wx ⟨b5, 0, none⟩ [.int .i64 x16, .int .i64 x17]) hc13 (fun _ hcx => y_loadAgg Try.underlying31 rfl Try.type31 rfl (ev_tv rfl rfl) hcx) hS ?_
    intro hS
    obtain ⟨x18, ok19, hc14, H⟩ := H
    refine D_read (i := 9) (v := .tuple #[.int .u32 x18, .bool ok19]) rfl (by kernel_rfl) (W_none rfl) (fun wx => (Instr.lookup 57 (.map x15) (.agg #[.int .i64 x16, .int .i64 x17]) true).run Try.prog wx = .ok (.tuple #[.int .u32 x18, .bool ok19]) wx) hc14 (fun _ hcx => y_lookup (ev_tv rfl rfl) (ev_tv rfl rfl) hcx) hS ?_
    intro hS
    refine D_pure (i := 10) (v := .tuple #[.int .u32 x18, .bool ok19]) rfl (by kernel_rfl) (W_none rfl) (fun _ => y_move (ev_tv rfl rfl)) hS ?_
    intro hS
    refine D_pure (i := 11) (v := .int .u32 x18) rfl (by kernel_rfl) (W_none rfl) (fun _ => y_extract (ev_tv rfl rfl) rfl) hS ?_
    intro hS
    refine D_pure (i := 12) (v := .bool ok19) rfl (by kernel_rfl) (W_none rfl) (fun _ => y_extract (ev_tv rfl rfl) rfl) hS ?_
    intro hS
    refine D_pure (i := 13) (v := .int .u32 x18) rfl (by kernel_rfl) (W_none rfl) (fun _ => y_assign (ev_tv rfl rfl)) hS ?_
    intro hS
    refine D_pure (i := 14) (v := .bool ok19) rfl (by kernel_rfl) (W_none rfl) (fun _ => y_assign (ev_tv rfl rfl)) hS ?_
    intro hS
    refine D_done (by kernel_rfl) ?_
    refine then_norm ?_
    refine hK8 _ _ ?_
    clear hK8
    refine c_seq ?_
    intro K15 hK15
    refine c_region ?_
    refine L_val (v := .int .u32 x18) (y_move (ev_tv rfl rfl)) ?_
    refine L_val (v := .bool ok19) (y_move (ev_tv rfl rfl)) ?_
    refine L_val (v := .int .u32 x18) (y_assign (ev_tv rfl rfl)) ?_
    refine L_val (v := .bool ok19) (y_assign (ev_tv rfl rfl)) ?_
    refine l_nil ?_
    refine then_norm ?_
    refine hK15 _ _ ?_
    clear hK15
    refine c_ret ?_
    exact body_2 rfl (ev_tv rfl rfl) (ev_tv rfl rfl) H
  · replace H := H.2 hb6
    have hq7 : Value.bool (x7) = Value.bool false := congrArg Value.bool hb6
    refine L_val (v := .bool true) (y_not_f (ev_tv rfl hq7)) ?_
    refine l_nil ?_
    refine then_norm ?_
    refine hK5 _ _ ?_
    clear hK5
    refine cond_t (ev_tv rfl rfl) ?_
    refine c_seq ?_
    intro K16 hK16
    refine c_region ?_
    refine L_val (v := .int .u32 0) (y_assign ev_c) ?_
    refine L_val (v := .bool false) (y_assign ev_c) ?_
    refine l_nil ?_
    refine then_norm ?_
    refine hK16 _ _ ?_
    clear hK16
    refine c_ret ?_
    refine then_ret ?_
    exact body_2 rfl (ev_tv rfl rfl) (ev_tv rfl rfl) H

/-- parapet/parapetref07.New -/
def Vc17 (a_harts1 : Int) (a_size2 : Int) (w : World) (R : Ending → World → Prop) : Prop :=
  ((((a_harts1 : Int) < 1) → R (.returned (.tuple #[.pointer none, .int .i64 1])) w) ∧ ((¬ ((a_harts1 : Int) < 1)) → ((((8 : Int) < a_harts1) → R (.returned (.tuple #[.pointer none, .int .i64 1])) w) ∧ ((¬ ((8 : Int) < a_harts1)) → ((((a_size2 : Int) < 1) → R (.returned (.tuple #[.pointer none, .int .i64 1])) w) ∧ ((¬ ((a_size2 : Int) < 1)) → ((((64 : Int) < a_size2) → R (.returned (.tuple #[.pointer none, .int .i64 1])) w) ∧ ((¬ ((64 : Int) < a_size2)) → (∃ x4 : Option Addr, ∃ x4l : Nat, ∃ x4c : Nat, ∃ w3 : World, (Instr.makeSlice 68 (.int .i64 a_harts1) (.int .i64 a_harts1)).run Try.prog w = .ok (.slice x4 x4l x4c) w3 ∧ (∀ (b5 : Nat) (w6 : World), b5 = World.heapSize w3 → w6 = World.alloc w3 (.cells #[.int .i64 a_size2, .slice x4 x4l x4c, .slice none 0 0] 71) → R (.returned (.tuple #[.pointer (some ⟨b5, 0, none⟩), .int .i64 0])) w6))))))))))

theorem vc17 {a_harts1 : Int} {a_size2 : Int} {w : World} {R : Ending → World → Prop} (H : Vc17 a_harts1 a_size2 w R) : Calls Try.prog 17 #[.int .i64 a_harts1, .int .i64 a_size2] w R := by
  unfold Vc17 at H
  refine calls_start [.int .i64 a_harts1, .int .i64 a_size2] Try.func17 rfl Try.ntmps17 rfl ?_
  refine c_seq ?_
  intro K1 hK1
  refine c_region ?_
  refine L_val (v := .pointer none) (y_assign ev_c) ?_
  refine L_val (v := .int .i64 0) (y_assign ev_c) ?_
  refine l_nil ?_
  refine then_norm ?_
  refine hK1 _ _ ?_
  clear hK1
  refine c_seq ?_
  intro K2 hK2
  refine c_seq ?_
  intro K3 hK3
  refine c_region ?_
  refine L_val (v := .int .i64 a_harts1) (y_move (ev_tv rfl rfl)) ?_
  refine L_val (v := .bool (decide ((a_harts1 : Int) < 1))) (y_lss (ev_tv rfl rfl) ev_c) ?_
  refine L_val (v := .bool (decide ((a_harts1 : Int) < 1))) (y_move (ev_tv rfl rfl)) ?_
  rcases (Decidable.em ((a_harts1 : Int) < 1)) with hb4 | hb4
  · replace H := H.1 hb4
    have hq5 : Value.bool (decide ((a_harts1 : Int) < 1)) = Value.bool true := congrArg Value.bool (decide_eq_true hb4)
    refine G_not (b' := true) (dj := 8) rfl rfl hq5 rfl ?_
    refine G_not (b' := true) (dj := 8) rfl rfl hq5 rfl ?_
    refine L_val (v := .bool true) (y_pick_t (ev_tv rfl hq5) ev_c) ?_
    refine L_val (v := .bool true) (y_move (ev_tv rfl rfl)) ?_
    refine G_not (b' := true) (dj := 12) rfl rfl rfl rfl ?_
    refine G_not (b' := true) (dj := 12) rfl rfl rfl rfl ?_
    refine L_val (v := .bool true) (y_pick_t (ev_tv rfl rfl) ev_c) ?_
    refine L_val (v := .bool true) (y_move (ev_tv rfl rfl)) ?_
    refine G_not (b' := true) (dj := 16) rfl rfl rfl rfl ?_
    refine G_not (b' := true) (dj := 16) rfl rfl rfl rfl ?_
    refine L_val (v := .bool true) (y_pick_t (ev_tv rfl rfl) ev_c) ?_
    refine l_nil ?_
    refine then_norm ?_
    refine hK3 _ _ ?_
    clear hK3
    refine cond_t (ev_tv rfl rfl) ?_
    refine c_seq ?_
    intro K6 hK6
    refine c_region ?_
    refine L_val (v := .pointer none) (y_assign ev_c) ?_
    refine L_val (v := .int .i64 1) (y_assign ev_c) ?_
    refine l_nil ?_
    refine then_norm ?_
    refine hK6 _ _ ?_
    clear hK6
    refine c_ret ?_
    refine then_ret ?_
    exact body_2 rfl (ev_tv rfl rfl) (ev_tv rfl rfl) H
  · replace H := H.2 hb4
    have hq5 : Value.bool (decide ((a_harts1 : Int) < 1)) = Value.bool false := congrArg Value.bool (decide_eq_false hb4)
    refine G_val (dj := 8) rfl rfl hq5 (v := .int .i64 a_harts1) (y_move (ev_tv rfl rfl)) ?_
    refine G_val (dj := 8) rfl rfl hq5 (v := .bool (decide ((8 : Int) < a_harts1))) (y_gtr (ev_tv rfl rfl) ev_c) ?_
    refine L_val (v := .bool (decide ((8 : Int) < a_harts1))) (y_pick_f (ev_tv rfl hq5) (ev_tv rfl rfl)) ?_
    refine L_val (v := .bool (decide ((8 : Int) < a_harts1))) (y_move (ev_tv rfl rfl)) ?_
    rcases (Decidable.em ((8 : Int) < a_harts1)) with hb7 | hb7
    · replace H := H.1 hb7
      have hq8 : Value.bool (decide ((8 : Int) < a_harts1)) = Value.bool true := congrArg Value.bool (decide_eq_true hb7)
      refine G_not (b' := true) (dj := 12) rfl rfl hq8 rfl ?_
      refine G_not (b' := true) (dj := 12) rfl rfl hq8 rfl ?_
      refine L_val (v := .bool true) (y_pick_t (ev_tv rfl hq8) ev_c) ?_
      refine L_val (v := .bool true) (y_move (ev_tv rfl rfl)) ?_
      refine G_not (b' := true) (dj := 16) rfl rfl rfl rfl ?_
      refine G_not (b' := true) (dj := 16) rfl rfl rfl rfl ?_
      refine L_val (v := .bool true) (y_pick_t (ev_tv rfl rfl) ev_c) ?_
      refine l_nil ?_
      refine then_norm ?_
      refine hK3 _ _ ?_
      clear hK3
      refine cond_t (ev_tv rfl rfl) ?_
      refine c_seq ?_
      intro K9 hK9
      refine c_region ?_
      refine L_val (v := .pointer none) (y_assign ev_c) ?_
      refine L_val (v := .int .i64 1) (y_assign ev_c) ?_
      refine l_nil ?_
      refine then_norm ?_
      refine hK9 _ _ ?_
      clear hK9
      refine c_ret ?_
      refine then_ret ?_
      exact body_2 rfl (ev_tv rfl rfl) (ev_tv rfl rfl) H
    · replace H := H.2 hb7
      have hq8 : Value.bool (decide ((8 : Int) < a_harts1)) = Value.bool false := congrArg Value.bool (decide_eq_false hb7)
      refine G_val (dj := 12) rfl rfl hq8 (v := .int .i64 a_size2) (y_move (ev_tv rfl rfl)) ?_
      refine G_val (dj := 12) rfl rfl hq8 (v := .bool (decide ((a_size2 : Int) < 1))) (y_lss (ev_tv rfl rfl) ev_c) ?_
      refine L_val (v := .bool (decide ((a_size2 : Int) < 1))) (y_pick_f (ev_tv rfl hq8) (ev_tv rfl rfl)) ?_
      refine L_val (v := .bool (decide ((a_size2 : Int) < 1))) (y_move (ev_tv rfl rfl)) ?_
      rcases (Decidable.em ((a_size2 : Int) < 1)) with hb10 | hb10
      · replace H := H.1 hb10
        have hq11 : Value.bool (decide ((a_size2 : Int) < 1)) = Value.bool true := congrArg Value.bool (decide_eq_true hb10)
        refine G_not (b' := true) (dj := 16) rfl rfl hq11 rfl ?_
        refine G_not (b' := true) (dj := 16) rfl rfl hq11 rfl ?_
        refine L_val (v := .bool true) (y_pick_t (ev_tv rfl hq11) ev_c) ?_
        refine l_nil ?_
        refine then_norm ?_
        refine hK3 _ _ ?_
        clear hK3
        refine cond_t (ev_tv rfl rfl) ?_
        refine c_seq ?_
        intro K12 hK12
        refine c_region ?_
        refine L_val (v := .pointer none) (y_assign ev_c) ?_
        refine L_val (v := .int .i64 1) (y_assign ev_c) ?_
        refine l_nil ?_
        refine then_norm ?_
        refine hK12 _ _ ?_
        clear hK12
        refine c_ret ?_
        refine then_ret ?_
        exact body_2 rfl (ev_tv rfl rfl) (ev_tv rfl rfl) H
      · replace H := H.2 hb10
        have hq11 : Value.bool (decide ((a_size2 : Int) < 1)) = Value.bool false := congrArg Value.bool (decide_eq_false hb10)
        refine G_val (dj := 16) rfl rfl hq11 (v := .int .i64 a_size2) (y_move (ev_tv rfl rfl)) ?_
        refine G_val (dj := 16) rfl rfl hq11 (v := .bool (decide ((64 : Int) < a_size2))) (y_gtr (ev_tv rfl rfl) ev_c) ?_
        refine L_val (v := .bool (decide ((64 : Int) < a_size2))) (y_pick_f (ev_tv rfl hq11) (ev_tv rfl rfl)) ?_
        refine l_nil ?_
        refine then_norm ?_
        refine hK3 _ _ ?_
        clear hK3
        rcases (Decidable.em ((64 : Int) < a_size2)) with hb13 | hb13
        · replace H := H.1 hb13
          have hq14 : Value.bool (decide ((64 : Int) < a_size2)) = Value.bool true := congrArg Value.bool (decide_eq_true hb13)
          refine cond_t (ev_tv rfl hq14) ?_
          refine c_seq ?_
          intro K15 hK15
          refine c_region ?_
          refine L_val (v := .pointer none) (y_assign ev_c) ?_
          refine L_val (v := .int .i64 1) (y_assign ev_c) ?_
          refine l_nil ?_
          refine then_norm ?_
          refine hK15 _ _ ?_
          clear hK15
          refine c_ret ?_
          refine then_ret ?_
          exact body_2 rfl (ev_tv rfl rfl) (ev_tv rfl rfl) H
        · replace H := H.2 hb13
          have hq14 : Value.bool (decide ((64 : Int) < a_size2)) = Value.bool false := congrArg Value.bool (decide_eq_false hb13)
          refine cond_f (ev_tv rfl hq14) ?_
          refine c_skip ?_
          refine then_norm ?_
          refine hK2 _ _ ?_
          clear hK2
          refine c_seq ?_
          intro K16 hK16
          refine c_region ?_
          refine L_val (v := .int .i64 a_size2) (y_move (ev_tv rfl rfl)) ?_
          refine L_val (v := .int .i64 a_harts1) (y_move (ev_tv rfl rfl)) ?_
          obtain ⟨x4, x4l, x4c, w3, hc17, H⟩ := H
          refine L_val (v := .slice x4 x4l x4c) (y_makeSlice (ev_tv rfl rfl) (ev_tv rfl rfl) hc17) ?_
          refine L_val (v := .agg #[.int .i64 a_size2, .slice x4 x4l x4c, .slice none 0 0]) (y_build (parts_ev2 (ev_tv rfl rfl) (ev_tv rfl rfl)) (by kernel_rfl)) ?_
          obtain ⟨b5, hb18⟩ : ∃ b5 : Nat, b5 = World.heapSize w3 := ⟨_, rfl⟩
          obtain ⟨w6, hw19⟩ : ∃ w6 : World, w6 = World.alloc w3 (.cells #[.int .i64 a_size2, .slice x4 x4l x4c, .slice none 0 0] 71) := ⟨_, rfl⟩
          replace H := H b5 w6 hb18 hw19
          refine L_val (v := .pointer (some ⟨b5, 0, none⟩)) (y_box (ev_tv rfl rfl) rfl hb18 hw19) ?_
          refine L_val (v := .pointer (some ⟨b5, 0, none⟩)) (y_assign (ev_tv rfl rfl)) ?_
          refine L_val (v := .int .i64 0) (y_assign ev_c) ?_
          refine l_nil ?_
          refine then_norm ?_
          refine hK16 _ _ ?_
          clear hK16
          refine c_ret ?_
          exact body_2 rfl (ev_tv rfl rfl) (ev_tv rfl rfl) H

/-- parapet/parapetlaw07.step -/
def Vc18 (a_t1 : Option Addr) (a_x2 : Option Addr) (a_o3 : Int) (a_o4 : Int) (a_o5 : Int) (a_o6 : Int) (a_o7 : Int) (a_o8 : Int) (a_o9 : Option Addr) (a_o9l : Nat) (a_o9c : Nat) (w : World) (R : Ending → World → Prop) : Prop :=
  (∀ (b10 : Nat) (w11 : World), b10 = World.heapSize w → w11 = World.alloc w (.cells #[.int .i64 a_o3, .int .i64 a_o4, .int .i64 a_o5, .int .i64 a_o6, .int .u32 a_o7, .int .i64 a_o8, .slice a_o9 a_o9l a_o9c] 34) → (∃ x12 : Int, World.cell? w11 ⟨b10, 0, none⟩ = some (.int .i64 x12) ∧ ((((x12 : Int) = 1) → (∃ x13 : Int, World.cell? w11 ⟨b10, 0 + 1, none⟩ = some (.int .i64 x13) ∧ (∃ x14 : Int, ∃ x15 : Int, CellsAt w11 ⟨b10, 0 + 2, none⟩ [.int .i64 x14, .int .i64 x15] ∧ (Calls Try.prog 16 #[.pointer a_t1, .int .i64 x13, .agg #[.int .i64 x14, .int .i64 x15]] w11 fun e w18 => ∃ x16 : Int, ∃ x17 : Bool, e = .returned (.tuple #[.int .u32 x16, .bool x17]) ∧ (∃ x20 : Int, World.cell? w18 ⟨b10, 0 + 1, none⟩ = some (.int .i64 x20) ∧ (∃ x21 : Int, ∃ x22 : Int, CellsAt w18 ⟨b10, 0 + 2, none⟩ [.int .i64 x21, .int .i64 x22] ∧ (Calls Try.prog 25 #[.pointer a_x2, .int .i64 x20, .agg #[.int .i64 x21, .int .i64 x22]] w18 fun e w25 => ∃ x23 : Int, ∃ x24 : Bool, e = .returned (.tuple #[.int .u32 x23, .bool x24]) ∧ ((((x16 : Int) = x23) → R (.returned (.bool (x17 == x24))) w25) ∧ ((¬ ((x16 : Int) = x23)) → R (.returned (.bool false)) w25))))))))) ∧ ((¬ ((x12 : Int) = 1)) → ((((x12 : Int) = 2) → (∃ x27 : Int, World.cell? (w11.drew) ⟨b10, 0 + 1, none⟩ = some (.int .i64 x27) ∧ (∃ x28 : Int, ∃ x29 : Int, CellsAt (w11.drew) ⟨b10, 0 + 2, none⟩ [.int .i64 x28, .int .i64 x29] ∧ (∃ x30 : Int, World.cell? (w11.drew) ⟨b10, 0 + 4, none⟩ = some (.int .u32 x30) ∧ (∃ x31 : Int, World.cell? (w11.drew) ⟨b10, 0 + 1, none⟩ = some (.int .i64 x31) ∧ (∃ x32 : Int, ∃ x33 : Int, CellsAt (w11.drew) ⟨b10, 0 + 2, none⟩ [.int .i64 x32, .int .i64 x33] ∧ (∃ x34 : Int, World.cell? (w11.drew) ⟨b10, 0 + 4, none⟩ = some (.int .u32 x34) ∧ (Calls Try.prog 9 #[.pointer a_t1, .int .i64 x27, .agg #[.int .i64 x28, .int .i64 x29], .int .u32 x30] (w11.drew) fun e w36 => ∃ x35 : Int, e = .returned (.int .i64 x35) ∧ (World.cell? w36 ⟨b10, 0 + 4, none⟩ = some (.int .u32 x34) ∧ CellsAt w36 ⟨b10, 0 + 2, none⟩ [.int .i64 x32, .int .i64 x33] ∧ World.cell? w36 ⟨b10, 0 + 1, none⟩ = some (.int .i64 x31) ∧ (Calls Try.prog 26 #[.pointer a_x2, .int .i64 x31, .agg #[.int .i64 x32, .int .i64 x33], .int .u32 x34] w36 fun e w38 => ∃ x37 : Int, e = .returned (.int .i64 x37) ∧ R (.returned (.bool (decide ((x35 : Int) = x37)))) w38)))))))))) ∧ ((¬ ((x12 : Int) = 2)) → ((((x12 : Int) = 3) → (∃ x39 : Int, World.cell? (w11.drew) ⟨b10, 0 + 1, none⟩ = some (.int .i64 x39) ∧ (∃ x40 : Int, World.cell? (w11.drew) ⟨b10, 0 + 2, none⟩ = some (.int .i64 x40) ∧ (∃ x41 : Int, World.cell? (w11.drew) ⟨b10, 0 + 1, none⟩ = some (.int .i64 x41) ∧ (∃ x42 : Int, World.cell? (w11.drew) ⟨b10, 0 + 2, none⟩ = some (.int .i64 x42) ∧ (Calls Try.prog 15 #[.pointer a_t1, .int .i64 x39, .int .i64 x40] (w11.drew) fun e w44 => ∃ x43 : Int, e = .returned (.int .i64 x43) ∧ (World.cell? w44 ⟨b10, 0 + 2, none⟩ = some (.int .i64 x42) ∧ World.cell? w44 ⟨b10, 0 + 1, none⟩ = some (.int .i64 x41) ∧ (Calls Try.prog 27 #[.pointer a_x2, .int .i64 x41, .int .i64 x42] w44 fun e w46 => ∃ x45 : Int, e = .returned (.int .i64 x45) ∧ R (.returned (.bool (decide ((x43 : Int) = x45)))) w46)))))))) ∧ ((¬ ((x12 : Int) = 3)) → ((((x12 : Int) = 4) → (∃ x47 : Int, World.cell? (w11.drew) ⟨b10, 0 + 2, none⟩ = some (.int .i64 x47) ∧ (∃ x48 : Option Addr, ∃ x48l : Nat, ∃ x48c : Nat, World.cell? (w11.drew) ⟨b10, 0 + 6, none⟩ = some (.slice x48 x48l x48c) ∧ (∀ (b49 : Nat) (w50 : World), b49 = World.heapSize (w11.drew) → w50 = World.alloc (w11.drew) (.cells #[] 3) → (World.cell? w50 ⟨b10, 0 + 6, none⟩ = some (.slice x48 x48l x48c) ∧ World.cell? w50 ⟨b10, 0 + 2, none⟩ = some (.int .i64 x47) ∧ (∃ x52 : Option Addr, ∃ x52l : Nat, ∃ x52c : Nat, ∃ w51 : World, (Builtin.append_ #[23, 23] 23 #[.slice (some ⟨b49, 0, none⟩) 0 0, .slice x48 x48l x48c]).run Try.prog w50 = .ok (.slice x52 x52l x52c) w51 ∧ (World.cell? w51 ⟨b10, 0 + 2, none⟩ = some (.int .i64 x47) ∧ (Calls Try.prog 10 #[.pointer a_t1, .int .i64 x47, .slice x52 x52l x52c] w51 fun e w55 => ∃ x53 : Int, ∃ x54 : Int, e = .returned (.tuple #[.int .i64 x53, .int .i64 x54]) ∧ (∃ x56 : Int, World.cell? w55 ⟨b10, 0 + 2, none⟩ = some (.int .i64 x56) ∧ (∃ x57 : Option Addr, ∃ x57l : Nat, ∃ x57c : Nat, World.cell? w55 ⟨b10, 0 + 6, none⟩ = some (.slice x57 x57l x57c) ∧ (Calls Try.prog 28 #[.pointer a_x2, .int .i64 x56, .slice x57 x57l x57c] w55 fun e w60 => ∃ x58 : Int, ∃ x59 : Int, e = .returned (.tuple #[.int .i64 x58, .int .i64 x59]) ∧ ((((x53 : Int) = x58) → R (.returned (.bool (decide ((x54 : Int) = x59)))) w60) ∧ ((¬ ((x53 : Int) = x58)) → R (.returned (.bool false)) w60))))))))))))) ∧ ((¬ ((x12 : Int) = 4)) → ((((x12 : Int) = 5) → (∃ x62 : Int, World.cell? (w11.drew) ⟨b10, 0 + 1, none⟩ = some (.int .i64 x62) ∧ (∃ x63 : Int, World.cell? (w11.drew) ⟨b10, 0 + 1, none⟩ = some (.int .i64 x63) ∧ (Calls Try.prog 13 #[.pointer a_t1, .int .i64 x62] (w11.drew) fun e w65 => ∃ x64 : Int, e = .returned (.int .i64 x64) ∧ (World.cell? w65 ⟨b10, 0 + 1, none⟩ = some (.int .i64 x63) ∧ (Calls Try.prog 29 #[.pointer a_x2, .int .i64 x63] w65 fun e w67 => ∃ x66 : Int, e = .returned (.int .i64 x66) ∧ R (.returned (.bool (decide ((x64 : Int) = x66)))) w67)))))) ∧ ((¬ ((x12 : Int) = 5)) → ((((x12 : Int) = 6) → (∃ x68 : Int, World.cell? (w11.drew) ⟨b10, 0 + 5, none⟩ = some (.int .i64 x68) ∧ (∃ x69 : Int, World.cell? (w11.drew) ⟨b10, 0 + 5, none⟩ = some (.int .i64 x69) ∧ (Calls Try.prog 12 #[.pointer a_t1, .int .i64 x68] (w11.drew) fun e w71 => ∃ x70 : Bool, e = .returned (.bool x70) ∧ (World.cell? w71 ⟨b10, 0 + 5, none⟩ = some (.int .i64 x69) ∧ (Calls Try.prog 30 #[.pointer a_x2, .int .i64 x69] w71 fun e w73 => ∃ x72 : Bool, e = .returned (.bool x72) ∧ R (.returned (.bool (x70 == x72))) w73)))))) ∧ ((¬ ((x12 : Int) = 6)) → (Calls Try.prog 19 #[.pointer a_t1, .pointer a_x2] w11 fun e w75 => ∃ x74 : Bool, e = .returned (.bool x74) ∧ R (.returned (.bool x74)) w75)))))))))))))))

theorem vc18 {a_t1 : Option Addr} {a_x2 : Option Addr} {a_o3 : Int} {a_o4 : Int} {a_o5 : Int} {a_o6 : Int} {a_o7 : Int} {a_o8 : Int} {a_o9 : Option Addr} {a_o9l : Nat} {a_o9c : Nat} {w : World} {R : Ending → World → Prop} (H : Vc18 a_t1 a_x2 a_o3 a_o4 a_o5 a_o6 a_o7 a_o8 a_o9 a_o9l a_o9c w R) : Calls Try.prog 18 #[.pointer a_t1, .pointer a_x2, .agg #[.int .i64 a_o3, .int .i64 a_o4, .int .i64 a_o5, .int .i64 a_o6, .int .u32 a_o7, .int .i64 a_o8, .slice a_o9 a_o9l a_o9c]] w R := by
  unfold Vc18 at H
  refine calls_start [.pointer a_t1, .pointer a_x2, .agg #[.int .i64 a_o3, .int .i64 a_o4, .int .i64 a_o5, .int .i64 a_o6, .int .u32 a_o7, .int .i64 a_o8, .slice a_o9 a_o9l a_o9c]] Try.func18 rfl Try.ntmps18 rfl ?_
  refine c_seq ?_
  intro K1 hK1
  refine c_region ?_
  obtain ⟨b10, hb2⟩ : ∃ b10 : Nat, b10 = World.heapSize w := ⟨_, rfl⟩
  obtain ⟨w11, hw3⟩ : ∃ w11 : World, w11 = World.alloc w (.cells #[.int .i64 a_o3, .int .i64 a_o4, .int .i64 a_o5, .int .i64 a_o6, .int .u32 a_o7, .int .i64 a_o8, .slice a_o9 a_o9l a_o9c] 34) := ⟨_, rfl⟩
  replace H := H b10 w11 hb2 hw3
  refine L_val (v := .pointer (some ⟨b10, 0, none⟩)) (y_box (ev_tv rfl rfl) rfl hb2 hw3) ?_
  refine L_val (v := .bool false) (y_assign ev_c) ?_
  refine l_nil ?_
  refine then_norm ?_
  refine hK1 _ _ ?_
  clear hK1
  refine c_seq ?_
  intro K4 hK4
  refine c_seq ?_
  intro K5 hK5
  refine c_region ?_
  refine L_val (v := .pointer (some ⟨b10, 0, none⟩)) (Try.fa34_0 (ev_tv rfl rfl)) ?_
  obtain ⟨x12, hc6, H⟩ := H
  refine L_val (v := .int .i64 x12) (y_load Try.underlying3 rfl (ev_tv rfl rfl) hc6) ?_
  refine l_nil ?_
  refine then_norm ?_
  refine hK5 _ _ ?_
  clear hK5
  refine c_block ?_
  refine c_seq ?_
  intro K7 hK7
  refine c_region ?_
  refine L_val (v := .bool (decide ((x12 : Int) = 1))) (y_ieq (ev_tv rfl rfl) ev_c) ?_
  refine L_val (v := .bool (decide ((x12 : Int) = 1))) (y_assign (ev_tv rfl rfl)) ?_
  refine l_nil ?_
  refine then_norm ?_
  refine hK7 _ _ ?_
  clear hK7
  rcases (Decidable.em ((x12 : Int) = 1)) with hb8 | hb8
  · replace H := H.1 hb8
    have hq9 : Value.bool (decide ((x12 : Int) = 1)) = Value.bool true := congrArg Value.bool (decide_eq_true hb8)
    refine cond_t (ev_tv rfl hq9) ?_
    refine c_seq ?_
    intro K10 hK10
    refine c_region ?_
    refine L_val (v := .pointer a_t1) (y_move (ev_tv rfl rfl)) ?_
    refine L_val (v := .pointer (some ⟨b10, 0 + 1, none⟩)) (Try.fa34_1 (ev_tv rfl rfl)) ?_
    obtain ⟨x13, hc11, H⟩ := H
    refine L_val (v := .int .i64 x13) (y_load Try.underlying3 rfl (ev_tv rfl rfl) hc11) ?_
    refine L_val (v := .pointer (some ⟨b10, 0 + 2, none⟩)) (Try.fa34_2 (ev_tv rfl rfl)) ?_
    obtain ⟨x14, x15, hc12, H⟩ := H
    refine L_val (v := .agg #[.int .i64 x14, .int .i64 x15]) (y_loadAgg Try.underlying31 rfl Try.type31 rfl (ev_tv rfl rfl) hc12) ?_
    refine L_call (y_call Try.call16 (map_ev3 (ev_tv rfl rfl) (ev_tv rfl rfl) (ev_tv rfl rfl)) ev_f) (Calls.mono H ?_)
    clear H
    rintro _ w18 ⟨x16, x17, rfl, H⟩
    refine ⟨_, rfl, ?_⟩
    refine L_val (v := .tuple #[.int .u32 x16, .bool x17]) (y_move (ev_tv rfl rfl)) ?_
    refine L_val (v := .int .u32 x16) (y_extract (ev_tv rfl rfl) rfl) ?_
    refine L_val (v := .bool x17) (y_extract (ev_tv rfl rfl) rfl) ?_
    refine L_val (v := .int .u32 x16) (y_assign (ev_tv rfl rfl)) ?_
    refine L_val (v := .bool x17) (y_assign (ev_tv rfl rfl)) ?_
    refine l_nil ?_
    refine then_norm ?_
    refine hK10 _ _ ?_
    clear hK10
    refine c_seq ?_
    intro K13 hK13
    refine c_region ?_
    refine L_val (v := .pointer a_x2) (y_move (ev_tv rfl rfl)) ?_
    refine L_val (v := .pointer (some ⟨b10, 0 + 1, none⟩)) (Try.fa34_1 (ev_tv rfl rfl)) ?_
    obtain ⟨x20, hc14, H⟩ := H
    refine L_val (v := .int .i64 x20) (y_load Try.underlying3 rfl (ev_tv rfl rfl) hc14) ?_
    refine L_val (v := .pointer (some ⟨b10, 0 + 2, none⟩)) (Try.fa34_2 (ev_tv rfl rfl)) ?_
    obtain ⟨x21, x22, hc15, H⟩ := H
    refine L_val (v := .agg #[.int .i64 x21, .int .i64 x22]) (y_loadAgg Try.underlying31 rfl Try.type31 rfl (ev_tv rfl rfl) hc15) ?_
    refine L_call (y_call Try.call25 (map_ev3 (ev_tv rfl rfl) (ev_tv rfl rfl) (ev_tv rfl rfl)) ev_f) (Calls.mono H ?_)
    clear H
    rintro _ w25 ⟨x23, x24, rfl, H⟩
    refine ⟨_, rfl, ?_⟩
    refine L_val (v := .tuple #[.int .u32 x23, .bool x24]) (y_move (ev_tv rfl rfl)) ?_
    refine L_val (v := .int .u32 x23) (y_extract (ev_tv rfl rfl) rfl) ?_
    refine L_val (v := .bool x24) (y_extract (ev_tv rfl rfl) rfl) ?_
    refine L_val (v := .int .u32 x23) (y_assign (ev_tv rfl rfl)) ?_
    refine L_val (v := .bool x24) (y_assign (ev_tv rfl rfl)) ?_
    refine l_nil ?_
    refine then_norm ?_
    refine hK13 _ _ ?_
    clear hK13
    refine c_seq ?_
    intro K16 hK16
    refine c_region ?_
    refine L_val (v := .int .u32 x16) (y_move (ev_tv rfl rfl)) ?_
    refine L_val (v := .int .u32 x23) (y_move (ev_tv rfl rfl)) ?_
    refine L_val (v := .bool (decide ((x16 : Int) = x23))) (y_ieq (ev_tv rfl rfl) (ev_tv rfl rfl)) ?_
    refine L_val (v := .bool (decide ((x16 : Int) = x23))) (y_move (ev_tv rfl rfl)) ?_
    rcases (Decidable.em ((x16 : Int) = x23)) with hb17 | hb17
    · replace H := H.1 hb17
      have hq18 : Value.bool (decide ((x16 : Int) = x23)) = Value.bool true := congrArg Value.bool (decide_eq_true hb17)
      refine G_val (dj := 40) rfl rfl hq18 (v := .bool x17) (y_move (ev_tv rfl rfl)) ?_
      refine G_val (dj := 40) rfl rfl hq18 (v := .bool x24) (y_move (ev_tv rfl rfl)) ?_
      refine G_val (dj := 40) rfl rfl hq18 (v := .bool (x17 == x24)) (y_beq Try.underlying4 (ev_tv rfl rfl) (ev_tv rfl rfl)) ?_
      refine L_val (v := .bool (x17 == x24)) (y_pick_t (ev_tv rfl hq18) (ev_tv rfl rfl)) ?_
      refine L_val (v := .bool (x17 == x24)) (y_assign (ev_tv rfl rfl)) ?_
      refine l_nil ?_
      refine then_norm ?_
      refine hK16 _ _ ?_
      clear hK16
      refine c_ret ?_
      refine block_ret ?_
      refine then_ret ?_
      exact body_1 rfl (ev_tv rfl rfl) H
    · replace H := H.2 hb17
      have hq18 : Value.bool (decide ((x16 : Int) = x23)) = Value.bool false := congrArg Value.bool (decide_eq_false hb17)
      refine G_not (b' := false) (dj := 40) rfl rfl hq18 rfl ?_
      refine G_not (b' := false) (dj := 40) rfl rfl hq18 rfl ?_
      refine G_not (b' := false) (dj := 40) rfl rfl hq18 rfl ?_
      refine L_val (v := .bool false) (y_pick_f (ev_tv rfl hq18) ev_c) ?_
      refine L_val (v := .bool false) (y_assign (ev_tv rfl rfl)) ?_
      refine l_nil ?_
      refine then_norm ?_
      refine hK16 _ _ ?_
      clear hK16
      refine c_ret ?_
      refine block_ret ?_
      refine then_ret ?_
      exact body_1 rfl (ev_tv rfl rfl) H
  · replace H := H.2 hb8
    have hq9 : Value.bool (decide ((x12 : Int) = 1)) = Value.bool false := congrArg Value.bool (decide_eq_false hb8)
    refine cond_f (ev_tv rfl hq9) ?_
    refine c_seq ?_
    intro K19 hK19
    refine c_region ?_
    refine L_val (v := .bool (decide ((x12 : Int) = 2))) (y_ieq (ev_tv rfl rfl) ev_c) ?_
    refine L_val (v := .bool (decide ((x12 : Int) = 2))) (y_assign (ev_tv rfl rfl)) ?_
    refine l_nil ?_
    refine then_norm ?_
    refine hK19 _ _ ?_
    clear hK19
    rcases (Decidable.em ((x12 : Int) = 2)) with hb20 | hb20
    · replace H := H.1 hb20
      have hq21 : Value.bool (decide ((x12 : Int) = 2)) = Value.bool true := congrArg Value.bool (decide_eq_true hb20)
      refine cond_t (ev_tv rfl hq21) ?_
      refine c_seq ?_
      intro K22 hK22
      refine D_start Try.mixed rfl [7, 15] ?_
      refine start_keep fun hS => ?_
      refine D_pure (i := 0) (v := .pointer a_t1) rfl (by kernel_rfl) (W_none rfl) (fun _ => y_move (ev_tv rfl rfl)) hS ?_
      intro hS
      refine D_pure (i := 1) (v := .pointer (some ⟨b10, 0 + 1, none⟩)) rfl (by kernel_rfl) (W_none rfl) (fun _ => Try.fa34_1 (ev_tv rfl rfl)) hS ?_
      intro hS
      refine D_pure (i := 3) (v := .pointer (some ⟨b10, 0 + 2, none⟩)) rfl (by kernel_rfl) (W_none rfl) (fun _ => Try.fa34_2 (ev_tv rfl rfl)) hS ?_
      intro hS
      refine D_pure (i := 5) (v := .pointer (some ⟨b10, 0 + 4, none⟩)) rfl (by kernel_rfl) (W_none rfl) (fun _ => Try.fa34_3 (ev_tv rfl rfl)) hS ?_
      intro hS
      refine D_pure (i := 8) (v := .pointer a_x2) rfl (by kernel_rfl) (W_none rfl) (fun _ => y_move (ev_tv rfl rfl)) hS ?_
      intro hS
      refine D_pure (i := 9) (v := .pointer (some ⟨b10, 0 + 1, none⟩)) rfl (by kernel_rfl) (W_none rfl) (fun _ => Try.fa34_1 (ev_tv rfl rfl)) hS ?_
      intro hS
      refine D_pure (i := 11) (v := .pointer (some ⟨b10, 0 + 2, none⟩)) rfl (by kernel_rfl) (W_none rfl) (fun _ => Try.fa34_2 (ev_tv rfl rfl)) hS ?_
      intro hS
      refine D_pure (i := 13) (v := .pointer (some ⟨b10, 0 + 4, none⟩)) rfl (by kernel_rfl) (W_none rfl) (fun _ => Try.fa34_3 (ev_tv rfl rfl)) hS ?_
      intro hS
      obtain ⟨x27, hc23, H⟩ := H
      refine D_read (i := 2) (v := .int .i64 x27) rfl (by kernel_rfl) (W_none rfl) (fun wx => World.cell? wx ⟨b10, 0 + 1, none⟩ = some (.int .i64 x27)) hc23 (fun _ hcx => y_load Try.underlying3 rfl (ev_tv rfl rfl) hcx) hS ?_
      intro hS
      obtain ⟨x28, x29, hc24, H⟩ := H
      refine D_read (i := 4) (v := .agg #[.int .i64 x28, .int .i64 x29]) rfl (by kernel_rfl) (W_none rfl) (fun wx => CellsAt wx ⟨b10, 0 + 2, none⟩ [.int .i64 x28, .int .i64 x29]) hc24 (fun _ hcx => y_loadAgg Try.underlying31 rfl Try.type31 rfl (ev_tv rfl rfl) hcx) hS ?_
      intro hS
      obtain ⟨x30, hc25, H⟩ := H
      refine D_read (i := 6) (v := .int .u32 x30) rfl (by kernel_rfl) (W_none rfl) (fun wx => World.cell? wx ⟨b10, 0 + 4, none⟩ = some (.int .u32 x30)) hc25 (fun _ hcx => y_load Try.underlying32 rfl (ev_tv rfl rfl) hcx) hS ?_
      intro hS
      obtain ⟨x31, hc26, H⟩ := H
      refine D_read (i := 10) (v := .int .i64 x31) rfl (by kernel_rfl) (W_none rfl) (fun wx => World.cell? wx ⟨b10, 0 + 1, none⟩ = some (.int .i64 x31)) hc26 (fun _ hcx => y_load Try.underlying3 rfl (ev_tv rfl rfl) hcx) hS ?_
      intro hS
      obtain ⟨x32, x33, hc27, H⟩ := H
      refine D_read (i := 12) (v := .agg #[.int .i64 x32, .int .i64 x33]) rfl (by kernel_rfl) (W_none rfl) (fun wx => CellsAt wx ⟨b10, 0 + 2, none⟩ [.int .i64 x32, .int .i64 x33]) hc27 (fun _ hcx => y_loadAgg Try.underlying31 rfl Try.type31 rfl (ev_tv rfl rfl) hcx) hS ?_
      intro hS
      obtain ⟨x34, hc28, H⟩ := H
      refine D_read (i := 14) (v := .int .u32 x34) rfl (by kernel_rfl) (W_none rfl) (fun wx => World.cell? wx ⟨b10, 0 + 4, none⟩ = some (.int .u32 x34)) hc28 (fun _ hcx => y_load Try.underlying32 rfl (ev_tv rfl rfl) hcx) hS ?_
      intro hS
      refine D_only (i := 7) (by kernel_rfl) rfl ?_
      refine O_call (i := 7) rfl (W_none rfl) (y_call Try.call9 (map_ev4 (ev_tv rfl rfl) (ev_tv rfl rfl) (ev_tv rfl rfl) (ev_tv rfl rfl)) ev_f) (Calls.mono H ?_)
      clear H
      rintro _ w36 ⟨x35, rfl, H⟩
      refine ⟨_, rfl, ?_⟩
      obtain ⟨hs29, hs30, hs31, H⟩ := H
      refine and_keep (SS_on hs29 (SS_on hs30 (SS_on hs31 (SS_off (by kernel_rfl) (SS_off (by kernel_rfl) (SS_off (by kernel_rfl) SS_nil)))))) fun hS => ?_
      refine D_only (i := 15) (by kernel_rfl) rfl ?_
      refine O_call (i := 15) rfl (W_none rfl) (y_call Try.call26 (map_ev4 (ev_tv rfl rfl) (ev_tv rfl rfl) (ev_tv rfl rfl) (ev_tv rfl rfl)) ev_f) (Calls.mono H ?_)
      clear H
      rintro _ w38 ⟨x37, rfl, H⟩
      refine ⟨_, rfl, ?_⟩
      refine and_keep (SS_off (by kernel_rfl) (SS_off (by kernel_rfl) (SS_off (by kernel_rfl) (SS_off (by kernel_rfl) (SS_off (by kernel_rfl) (SS_off (by kernel_rfl) SS_nil)))))) fun hS => ?_
      refine D_pure (i := 16) (v := .bool (decide ((x35 : Int) = x37))) rfl (by kernel_rfl) (W_none rfl) (fun _ => y_ieq (ev_tv rfl rfl) (ev_tv rfl rfl)) hS ?_
      intro hS
      refine D_pure (i := 17) (v := .bool (decide ((x35 : Int) = x37))) rfl (by kernel_rfl) (W_none rfl) (fun _ => y_assign (ev_tv rfl rfl)) hS ?_
      intro hS
      refine D_done (by kernel_rfl) ?_
      refine then_norm ?_
      refine hK22 _ _ ?_
      clear hK22
      refine c_ret ?_
      refine block_ret ?_
      refine then_ret ?_
      exact body_1 rfl (ev_tv rfl rfl) H
    · replace H := H.2 hb20
      have hq21 : Value.bool (decide ((x12 : Int) = 2)) = Value.bool false := congrArg Value.bool (decide_eq_false hb20)
      refine cond_f (ev_tv rfl hq21) ?_
      refine c_seq ?_
      intro K32 hK32
      refine c_region ?_
      refine L_val (v := .bool (decide ((x12 : Int) = 3))) (y_ieq (ev_tv rfl rfl) ev_c) ?_
      refine L_val (v := .bool (decide ((x12 : Int) = 3))) (y_assign (ev_tv rfl rfl)) ?_
      refine l_nil ?_
      refine then_norm ?_
      refine hK32 _ _ ?_
      clear hK32
      rcases (Decidable.em ((x12 : Int) = 3)) with hb33 | hb33
      · replace H := H.1 hb33
        have hq34 : Value.bool (decide ((x12 : Int) = 3)) = Value.bool true := congrArg Value.bool (decide_eq_true hb33)
        refine cond_t (ev_tv rfl hq34) ?_
        refine c_seq ?_
        intro K35 hK35
        refine D_start Try.mixed rfl [6, 13] ?_
        refine start_keep fun hS => ?_
        refine D_pure (i := 0) (v := .pointer a_t1) rfl (by kernel_rfl) (W_none rfl) (fun _ => y_move (ev_tv rfl rfl)) hS ?_
        intro hS
        refine D_pure (i := 1) (v := .pointer (some ⟨b10, 0 + 1, none⟩)) rfl (by kernel_rfl) (W_none rfl) (fun _ => Try.fa34_1 (ev_tv rfl rfl)) hS ?_
        intro hS
        refine D_pure (i := 3) (v := .pointer (some ⟨b10, 0 + 2, none⟩)) rfl (by kernel_rfl) (W_none rfl) (fun _ => Try.fa34_2 (ev_tv rfl rfl)) hS ?_
        intro hS
        refine D_pure (i := 4) (v := .pointer (some ⟨b10, 0 + 2, none⟩)) rfl (by kernel_rfl) (W_none rfl) (fun _ => Try.fa31_0 (ev_tv rfl rfl)) hS ?_
        intro hS
        refine D_pure (i := 7) (v := .pointer a_x2) rfl (by kernel_rfl) (W_none rfl) (fun _ => y_move (ev_tv rfl rfl)) hS ?_
        intro hS
        refine D_pure (i := 8) (v := .pointer (some ⟨b10, 0 + 1, none⟩)) rfl (by kernel_rfl) (W_none rfl) (fun _ => Try.fa34_1 (ev_tv rfl rfl)) hS ?_
        intro hS
        refine D_pure (i := 10) (v := .pointer (some ⟨b10, 0 + 2, none⟩)) rfl (by kernel_rfl) (W_none rfl) (fun _ => Try.fa34_2 (ev_tv rfl rfl)) hS ?_
        intro hS
        refine D_pure (i := 11) (v := .pointer (some ⟨b10, 0 + 2, none⟩)) rfl (by kernel_rfl) (W_none rfl) (fun _ => Try.fa31_0 (ev_tv rfl rfl)) hS ?_
        intro hS
        obtain ⟨x39, hc36, H⟩ := H
        refine D_read (i := 2) (v := .int .i64 x39) rfl (by kernel_rfl) (W_none rfl) (fun wx => World.cell? wx ⟨b10, 0 + 1, none⟩ = some (.int .i64 x39)) hc36 (fun _ hcx => y_load Try.underlying3 rfl (ev_tv rfl rfl) hcx) hS ?_
        intro hS
        obtain ⟨x40, hc37, H⟩ := H
        refine D_read (i := 5) (v := .int .i64 x40) rfl (by kernel_rfl) (W_none rfl) (fun wx => World.cell? wx ⟨b10, 0 + 2, none⟩ = some (.int .i64 x40)) hc37 (fun _ hcx => y_load Try.underlying3 rfl (ev_tv rfl rfl) hcx) hS ?_
        intro hS
        obtain ⟨x41, hc38, H⟩ := H
        refine D_read (i := 9) (v := .int .i64 x41) rfl (by kernel_rfl) (W_none rfl) (fun wx => World.cell? wx ⟨b10, 0 + 1, none⟩ = some (.int .i64 x41)) hc38 (fun _ hcx => y_load Try.underlying3 rfl (ev_tv rfl rfl) hcx) hS ?_
        intro hS
        obtain ⟨x42, hc39, H⟩ := H
        refine D_read (i := 12) (v := .int .i64 x42) rfl (by kernel_rfl) (W_none rfl) (fun wx => World.cell? wx ⟨b10, 0 + 2, none⟩ = some (.int .i64 x42)) hc39 (fun _ hcx => y_load Try.underlying3 rfl (ev_tv rfl rfl) hcx) hS ?_
        intro hS
        refine D_only (i := 6) (by kernel_rfl) rfl ?_
        refine O_call (i := 6) rfl (W_none rfl) (y_call Try.call15 (map_ev3 (ev_tv rfl rfl) (ev_tv rfl rfl) (ev_tv rfl rfl)) ev_f) (Calls.mono H ?_)
        clear H
        rintro _ w44 ⟨x43, rfl, H⟩
        refine ⟨_, rfl, ?_⟩
        obtain ⟨hs40, hs41, H⟩ := H
        refine and_keep (SS_on hs40 (SS_on hs41 (SS_off (by kernel_rfl) (SS_off (by kernel_rfl) SS_nil)))) fun hS => ?_
        refine D_only (i := 13) (by kernel_rfl) rfl ?_
        refine O_call (i := 13) rfl (W_none rfl) (y_call Try.call27 (map_ev3 (ev_tv rfl rfl) (ev_tv rfl rfl) (ev_tv rfl rfl)) ev_f) (Calls.mono H ?_)
        clear H
        rintro _ w46 ⟨x45, rfl, H⟩
        refine ⟨_, rfl, ?_⟩
        refine and_keep (SS_off (by kernel_rfl) (SS_off (by kernel_rfl) (SS_off (by kernel_rfl) (SS_off (by kernel_rfl) SS_nil)))) fun hS => ?_
        refine D_pure (i := 14) (v := .bool (decide ((x43 : Int) = x45))) rfl (by kernel_rfl) (W_none rfl) (fun _ => y_ieq (ev_tv rfl rfl) (ev_tv rfl rfl)) hS ?_
        intro hS
        refine D_pure (i := 15) (v := .bool (decide ((x43 : Int) = x45))) rfl (by kernel_rfl) (W_none rfl) (fun _ => y_assign (ev_tv rfl rfl)) hS ?_
        intro hS
        refine D_done (by kernel_rfl) ?_
        refine then_norm ?_
        refine hK35 _ _ ?_
        clear hK35
        refine c_ret ?_
        refine block_ret ?_
        refine then_ret ?_
        exact body_1 rfl (ev_tv rfl rfl) H
      · replace H := H.2 hb33
        have hq34 : Value.bool (decide ((x12 : Int) = 3)) = Value.bool false := congrArg Value.bool (decide_eq_false hb33)
        refine cond_f (ev_tv rfl hq34) ?_
        refine c_seq ?_
        intro K42 hK42
        refine c_region ?_
        refine L_val (v := .bool (decide ((x12 : Int) = 4))) (y_ieq (ev_tv rfl rfl) ev_c) ?_
        refine L_val (v := .bool (decide ((x12 : Int) = 4))) (y_assign (ev_tv rfl rfl)) ?_
        refine l_nil ?_
        refine then_norm ?_
        refine hK42 _ _ ?_
        clear hK42
        rcases (Decidable.em ((x12 : Int) = 4)) with hb43 | hb43
        · replace H := H.1 hb43
          have hq44 : Value.bool (decide ((x12 : Int) = 4)) = Value.bool true := congrArg Value.bool (decide_eq_true hb43)
          refine cond_t (ev_tv rfl hq44) ?_
          refine c_seq ?_
          intro K45 hK45
          refine D_start Try.mixed rfl [4, 7, 8] ?_
          refine start_keep fun hS => ?_
          refine D_pure (i := 0) (v := .pointer a_t1) rfl (by kernel_rfl) (W_none rfl) (fun _ => y_move (ev_tv rfl rfl)) hS ?_
          intro hS
          refine D_pure (i := 1) (v := .pointer (some ⟨b10, 0 + 2, none⟩)) rfl (by kernel_rfl) (W_none rfl) (fun _ => Try.fa34_2 (ev_tv rfl rfl)) hS ?_
          intro hS
          refine D_pure (i := 2) (v := .pointer (some ⟨b10, 0 + 2, none⟩)) rfl (by kernel_rfl) (W_none rfl) (fun _ => Try.fa31_0 (ev_tv rfl rfl)) hS ?_
          intro hS
          refine D_pure (i := 5) (v := .pointer (some ⟨b10, 0 + 6, none⟩)) rfl (by kernel_rfl) (W_none rfl) (fun _ => Try.fa34_5 (ev_tv rfl rfl)) hS ?_
          intro hS
          obtain ⟨x47, hc46, H⟩ := H
          refine D_read (i := 3) (v := .int .i64 x47) rfl (by kernel_rfl) (W_none rfl) (fun wx => World.cell? wx ⟨b10, 0 + 2, none⟩ = some (.int .i64 x47)) hc46 (fun _ hcx => y_load Try.underlying3 rfl (ev_tv rfl rfl) hcx) hS ?_
          intro hS
          obtain ⟨x48, x48l, x48c, hc47, H⟩ := H
          refine D_read (i := 6) (v := .slice x48 x48l x48c) rfl (by kernel_rfl) (W_none rfl) (fun wx => World.cell? wx ⟨b10, 0 + 6, none⟩ = some (.slice x48 x48l x48c)) hc47 (fun _ hcx => y_load Try.underlying23 rfl (ev_tv rfl rfl) hcx) hS ?_
          intro hS
          refine D_only (i := 4) (by kernel_rfl) rfl ?_
          obtain ⟨b49, hb48⟩ : ∃ b49 : Nat, b49 = World.heapSize (w11.drew) := ⟨_, rfl⟩
          obtain ⟨w50, hw49⟩ : ∃ w50 : World, w50 = World.alloc (w11.drew) (.cells #[] 3) := ⟨_, rfl⟩
          replace H := H b49 w50 hb48 hw49
          refine O_val (i := 4) (v := .slice (some ⟨b49, 0, none⟩) 0 0) rfl (W_none rfl) (y_buildSlice rfl hb48 hw49 (by kernel_rfl)) ?_
          obtain ⟨hs58, hs59, H⟩ := H
          refine and_keep (SS_on hs58 (SS_on hs59 SS_nil)) fun hS => ?_
          refine D_only (i := 7) (by kernel_rfl) rfl ?_
          obtain ⟨x52, x52l, x52c, w51, hc50, H⟩ := H
          refine O_val (i := 7) (v := .slice x52 x52l x52c) rfl (W_none rfl) (y_bi_append (map_ev2 (ev_tv rfl rfl) (ev_tv rfl rfl)) hc50) ?_
          obtain ⟨hs57, H⟩ := H
          refine and_keep (SS_off (by kernel_rfl) (SS_on hs57 SS_nil)) fun hS => ?_
          refine D_only (i := 8) (by kernel_rfl) rfl ?_
          refine O_call (i := 8) rfl (W_none rfl) (y_call Try.call10 (map_ev3 (ev_tv rfl rfl) (ev_tv rfl rfl) (ev_tv rfl rfl)) ev_f) (Calls.mono H ?_)
          clear H
          rintro _ w55 ⟨x53, x54, rfl, H⟩
          refine ⟨_, rfl, ?_⟩
          refine and_keep (SS_off (by kernel_rfl) (SS_off (by kernel_rfl) SS_nil)) fun hS => ?_
          refine D_pure (i := 9) (v := .tuple #[.int .i64 x53, .int .i64 x54]) rfl (by kernel_rfl) (W_none rfl) (fun _ => y_move (ev_tv rfl rfl)) hS ?_
          intro hS
          refine D_pure (i := 10) (v := .int .i64 x53) rfl (by kernel_rfl) (W_none rfl) (fun _ => y_extract (ev_tv rfl rfl) rfl) hS ?_
          intro hS
          refine D_pure (i := 11) (v := .int .i64 x54) rfl (by kernel_rfl) (W_none rfl) (fun _ => y_extract (ev_tv rfl rfl) rfl) hS ?_
          intro hS
          refine D_pure (i := 12) (v := .int .i64 x53) rfl (by kernel_rfl) (W_none rfl) (fun _ => y_assign (ev_tv rfl rfl)) hS ?_
          intro hS
          refine D_pure (i := 13) (v := .int .i64 x54) rfl (by kernel_rfl) (W_none rfl) (fun _ => y_assign (ev_tv rfl rfl)) hS ?_
          intro hS
          refine D_done (by kernel_rfl) ?_
          refine then_norm ?_
          refine hK45 _ _ ?_
          clear hK45
          refine c_seq ?_
          intro K51 hK51
          refine c_region ?_
          refine L_val (v := .pointer a_x2) (y_move (ev_tv rfl rfl)) ?_
          refine L_val (v := .pointer (some ⟨b10, 0 + 2, none⟩)) (Try.fa34_2 (ev_tv rfl rfl)) ?_
          refine L_val (v := .pointer (some ⟨b10, 0 + 2, none⟩)) (Try.fa31_0 (ev_tv rfl rfl)) ?_
          obtain ⟨x56, hc52, H⟩ := H
          refine L_val (v := .int .i64 x56) (y_load Try.underlying3 rfl (ev_tv rfl rfl) hc52) ?_
          refine L_val (v := .pointer (some ⟨b10, 0 + 6, none⟩)) (Try.fa34_5 (ev_tv rfl rfl)) ?_
          obtain ⟨x57, x57l, x57c, hc53, H⟩ := H
          refine L_val (v := .slice x57 x57l x57c) (y_load Try.underlying23 rfl (ev_tv rfl rfl) hc53) ?_
          refine L_call (y_call Try.call28 (map_ev3 (ev_tv rfl rfl) (ev_tv rfl rfl) (ev_tv rfl rfl)) ev_f) (Calls.mono H ?_)
          clear H
          rintro _ w60 ⟨x58, x59, rfl, H⟩
          refine ⟨_, rfl, ?_⟩
          refine L_val (v := .tuple #[.int .i64 x58, .int .i64 x59]) (y_move (ev_tv rfl rfl)) ?_
          refine L_val (v := .int .i64 x58) (y_extract (ev_tv rfl rfl) rfl) ?_
          refine L_val (v := .int .i64 x59) (y_extract (ev_tv rfl rfl) rfl) ?_
          refine L_val (v := .int .i64 x58) (y_assign (ev_tv rfl rfl)) ?_
          refine L_val (v := .int .i64 x59) (y_assign (ev_tv rfl rfl)) ?_
          refine l_nil ?_
          refine then_norm ?_
          refine hK51 _ _ ?_
          clear hK51
          refine c_seq ?_
          intro K54 hK54
          refine c_region ?_
          refine L_val (v := .int .i64 x53) (y_move (ev_tv rfl rfl)) ?_
          refine L_val (v := .int .i64 x58) (y_move (ev_tv rfl rfl)) ?_
          refine L_val (v := .bool (decide ((x53 : Int) = x58))) (y_ieq (ev_tv rfl rfl) (ev_tv rfl rfl)) ?_
          refine L_val (v := .bool (decide ((x53 : Int) = x58))) (y_move (ev_tv rfl rfl)) ?_
          rcases (Decidable.em ((x53 : Int) = x58)) with hb55 | hb55
          · replace H := H.1 hb55
            have hq56 : Value.bool (decide ((x53 : Int) = x58)) = Value.bool true := congrArg Value.bool (decide_eq_true hb55)
            refine G_val (dj := 108) rfl rfl hq56 (v := .int .i64 x54) (y_move (ev_tv rfl rfl)) ?_
            refine G_val (dj := 108) rfl rfl hq56 (v := .int .i64 x59) (y_move (ev_tv rfl rfl)) ?_
            refine G_val (dj := 108) rfl rfl hq56 (v := .bool (decide ((x54 : Int) = x59))) (y_ieq (ev_tv rfl rfl) (ev_tv rfl rfl)) ?_
            refine L_val (v := .bool (decide ((x54 : Int) = x59))) (y_pick_t (ev_tv rfl hq56) (ev_tv rfl rfl)) ?_
            refine L_val (v := .bool (decide ((x54 : Int) = x59))) (y_assign (ev_tv rfl rfl)) ?_
            refine l_nil ?_
            refine then_norm ?_
            refine hK54 _ _ ?_
            clear hK54
            refine c_ret ?_
            refine block_ret ?_
            refine then_ret ?_
            exact body_1 rfl (ev_tv rfl rfl) H
          · replace H := H.2 hb55
            have hq56 : Value.bool (decide ((x53 : Int) = x58)) = Value.bool false := congrArg Value.bool (decide_eq_false hb55)
            refine G_not (b' := false) (dj := 108) rfl rfl hq56 rfl ?_
            refine G_not (b' := false) (dj := 108) rfl rfl hq56 rfl ?_
            refine G_not (b' := false) (dj := 108) rfl rfl hq56 rfl ?_
            refine L_val (v := .bool false) (y_pick_f (ev_tv rfl hq56) ev_c) ?_
            refine L_val (v := .bool false) (y_assign (ev_tv rfl rfl)) ?_
            refine l_nil ?_
            refine then_norm ?_
            refine hK54 _ _ ?_
            clear hK54
            refine c_ret ?_
            refine block_ret ?_
            refine then_ret ?_
            exact body_1 rfl (ev_tv rfl rfl) H
        · replace H := H.2 hb43
          have hq44 : Value.bool (decide ((x12 : Int) = 4)) = Value.bool false := congrArg Value.bool (decide_eq_false hb43)
          refine cond_f (ev_tv rfl hq44) ?_
          refine c_seq ?_
          intro K60 hK60
          refine c_region ?_
          refine L_val (v := .bool (decide ((x12 : Int) = 5))) (y_ieq (ev_tv rfl rfl) ev_c) ?_
          refine L_val (v := .bool (decide ((x12 : Int) = 5))) (y_assign (ev_tv rfl rfl)) ?_
          refine l_nil ?_
          refine then_norm ?_
          refine hK60 _ _ ?_
          clear hK60
          rcases (Decidable.em ((x12 : Int) = 5)) with hb61 | hb61
          · replace H := H.1 hb61
            have hq62 : Value.bool (decide ((x12 : Int) = 5)) = Value.bool true := congrArg Value.bool (decide_eq_true hb61)
            refine cond_t (ev_tv rfl hq62) ?_
            refine c_seq ?_
            intro K63 hK63
            refine D_start Try.mixed rfl [3, 7] ?_
            refine start_keep fun hS => ?_
            refine D_pure (i := 0) (v := .pointer a_t1) rfl (by kernel_rfl) (W_none rfl) (fun _ => y_move (ev_tv rfl rfl)) hS ?_
            intro hS
            refine D_pure (i := 1) (v := .pointer (some ⟨b10, 0 + 1, none⟩)) rfl (by kernel_rfl) (W_none rfl) (fun _ => Try.fa34_1 (ev_tv rfl rfl)) hS ?_
            intro hS
            refine D_pure (i := 4) (v := .pointer a_x2) rfl (by kernel_rfl) (W_none rfl) (fun _ => y_move (ev_tv rfl rfl)) hS ?_
            intro hS
            refine D_pure (i := 5) (v := .pointer (some ⟨b10, 0 + 1, none⟩)) rfl (by kernel_rfl) (W_none rfl) (fun _ => Try.fa34_1 (ev_tv rfl rfl)) hS ?_
            intro hS
            obtain ⟨x62, hc64, H⟩ := H
            refine D_read (i := 2) (v := .int .i64 x62) rfl (by kernel_rfl) (W_none rfl) (fun wx => World.cell? wx ⟨b10, 0 + 1, none⟩ = some (.int .i64 x62)) hc64 (fun _ hcx => y_load Try.underlying3 rfl (ev_tv rfl rfl) hcx) hS ?_
            intro hS
            obtain ⟨x63, hc65, H⟩ := H
            refine D_read (i := 6) (v := .int .i64 x63) rfl (by kernel_rfl) (W_none rfl) (fun wx => World.cell? wx ⟨b10, 0 + 1, none⟩ = some (.int .i64 x63)) hc65 (fun _ hcx => y_load Try.underlying3 rfl (ev_tv rfl rfl) hcx) hS ?_
            intro hS
            refine D_only (i := 3) (by kernel_rfl) rfl ?_
            refine O_call (i := 3) rfl (W_none rfl) (y_call Try.call13 (map_ev2 (ev_tv rfl rfl) (ev_tv rfl rfl)) ev_f) (Calls.mono H ?_)
            clear H
            rintro _ w65 ⟨x64, rfl, H⟩
            refine ⟨_, rfl, ?_⟩
            obtain ⟨hs66, H⟩ := H
            refine and_keep (SS_on hs66 (SS_off (by kernel_rfl) SS_nil)) fun hS => ?_
            refine D_only (i := 7) (by kernel_rfl) rfl ?_
            refine O_call (i := 7) rfl (W_none rfl) (y_call Try.call29 (map_ev2 (ev_tv rfl rfl) (ev_tv rfl rfl)) ev_f) (Calls.mono H ?_)
            clear H
            rintro _ w67 ⟨x66, rfl, H⟩
            refine ⟨_, rfl, ?_⟩
            refine and_keep (SS_off (by kernel_rfl) (SS_off (by kernel_rfl) SS_nil)) fun hS => ?_
            refine D_pure (i := 8) (v := .bool (decide ((x64 : Int) = x66))) rfl (by kernel_rfl) (W_none rfl) (fun _ => y_ieq (ev_tv rfl rfl) (ev_tv rfl rfl)) hS ?_
            intro hS
            refine D_pure (i := 9) (v := .bool (decide ((x64 : Int) = x66))) rfl (by kernel_rfl) (W_none rfl) (fun _ => y_assign (ev_tv rfl rfl)) hS ?_
            intro hS
            refine D_done (by kernel_rfl) ?_
            refine then_norm ?_
            refine hK63 _ _ ?_
            clear hK63
            refine c_ret ?_
            refine block_ret ?_
            refine then_ret ?_
            exact body_1 rfl (ev_tv rfl rfl) H
          · replace H := H.2 hb61
            have hq62 : Value.bool (decide ((x12 : Int) = 5)) = Value.bool false := congrArg Value.bool (decide_eq_false hb61)
            refine cond_f (ev_tv rfl hq62) ?_
            refine c_seq ?_
            intro K67 hK67
            refine c_region ?_
            refine L_val (v := .bool (decide ((x12 : Int) = 6))) (y_ieq (ev_tv rfl rfl) ev_c) ?_
            refine L_val (v := .bool (decide ((x12 : Int) = 6))) (y_assign (ev_tv rfl rfl)) ?_
            refine l_nil ?_
            refine then_norm ?_
            refine hK67 _ _ ?_
            clear hK67
            rcases (Decidable.em ((x12 : Int) = 6)) with hb68 | hb68
            · replace H := H.1 hb68
              have hq69 : Value.bool (decide ((x12 : Int) = 6)) = Value.bool true := congrArg Value.bool (decide_eq_true hb68)
              refine cond_t (ev_tv rfl hq69) ?_
              refine c_seq ?_
              intro K70 hK70
              refine D_start Try.mixed rfl [3, 7] ?_
              refine start_keep fun hS => ?_
              refine D_pure (i := 0) (v := .pointer a_t1) rfl (by kernel_rfl) (W_none rfl) (fun _ => y_move (ev_tv rfl rfl)) hS ?_
              intro hS
              refine D_pure (i := 1) (v := .pointer (some ⟨b10, 0 + 5, none⟩)) rfl (by kernel_rfl) (W_none rfl) (fun _ => Try.fa34_4 (ev_tv rfl rfl)) hS ?_
              intro hS
              refine D_pure (i := 4) (v := .pointer a_x2) rfl (by kernel_rfl) (W_none rfl) (fun _ => y_move (ev_tv rfl rfl)) hS ?_
              intro hS
              refine D_pure (i := 5) (v := .pointer (some ⟨b10, 0 + 5, none⟩)) rfl (by kernel_rfl) (W_none rfl) (fun _ => Try.fa34_4 (ev_tv rfl rfl)) hS ?_
              intro hS
              obtain ⟨x68, hc71, H⟩ := H
              refine D_read (i := 2) (v := .int .i64 x68) rfl (by kernel_rfl) (W_none rfl) (fun wx => World.cell? wx ⟨b10, 0 + 5, none⟩ = some (.int .i64 x68)) hc71 (fun _ hcx => y_load Try.underlying3 rfl (ev_tv rfl rfl) hcx) hS ?_
              intro hS
              obtain ⟨x69, hc72, H⟩ := H
              refine D_read (i := 6) (v := .int .i64 x69) rfl (by kernel_rfl) (W_none rfl) (fun wx => World.cell? wx ⟨b10, 0 + 5, none⟩ = some (.int .i64 x69)) hc72 (fun _ hcx => y_load Try.underlying3 rfl (ev_tv rfl rfl) hcx) hS ?_
              intro hS
              refine D_only (i := 3) (by kernel_rfl) rfl ?_
              refine O_call (i := 3) rfl (W_none rfl) (y_call Try.call12 (map_ev2 (ev_tv rfl rfl) (ev_tv rfl rfl)) ev_f) (Calls.mono H ?_)
              clear H
              rintro _ w71 ⟨x70, rfl, H⟩
              refine ⟨_, rfl, ?_⟩
              obtain ⟨hs73, H⟩ := H
              refine and_keep (SS_on hs73 (SS_off (by kernel_rfl) SS_nil)) fun hS => ?_
              refine D_only (i := 7) (by kernel_rfl) rfl ?_
              refine O_call (i := 7) rfl (W_none rfl) (y_call Try.call30 (map_ev2 (ev_tv rfl rfl) (ev_tv rfl rfl)) ev_f) (Calls.mono H ?_)
              clear H
              rintro _ w73 ⟨x72, rfl, H⟩
              refine ⟨_, rfl, ?_⟩
              refine and_keep (SS_off (by kernel_rfl) (SS_off (by kernel_rfl) SS_nil)) fun hS => ?_
              refine D_pure (i := 8) (v := .bool (x70 == x72)) rfl (by kernel_rfl) (W_none rfl) (fun _ => y_beq Try.underlying4 (ev_tv rfl rfl) (ev_tv rfl rfl)) hS ?_
              intro hS
              refine D_pure (i := 9) (v := .bool (x70 == x72)) rfl (by kernel_rfl) (W_none rfl) (fun _ => y_assign (ev_tv rfl rfl)) hS ?_
              intro hS
              refine D_done (by kernel_rfl) ?_
              refine then_norm ?_
              refine hK70 _ _ ?_
              clear hK70
              refine c_ret ?_
              refine block_ret ?_
              refine then_ret ?_
              exact body_1 rfl (ev_tv rfl rfl) H
            · replace H := H.2 hb68
              have hq69 : Value.bool (decide ((x12 : Int) = 6)) = Value.bool false := congrArg Value.bool (decide_eq_false hb68)
              refine cond_f (ev_tv rfl hq69) ?_
              refine c_skip ?_
              refine block_norm ?_
              refine then_norm ?_
              refine hK4 _ _ ?_
              clear hK4
              refine c_seq ?_
              intro K74 hK74
              refine c_region ?_
              refine L_val (v := .pointer a_t1) (y_move (ev_tv rfl rfl)) ?_
              refine L_val (v := .pointer a_x2) (y_move (ev_tv rfl rfl)) ?_
              refine L_call (y_call Try.call19 (map_ev2 (ev_tv rfl rfl) (ev_tv rfl rfl)) ev_f) (Calls.mono H ?_)
              clear H
              rintro _ w75 ⟨x74, rfl, H⟩
              refine ⟨_, rfl, ?_⟩
              refine L_val (v := .bool x74) (y_assign (ev_tv rfl rfl)) ?_
              refine l_nil ?_
              refine then_norm ?_
              refine hK74 _ _ ?_
              clear hK74
              refine c_ret ?_
              exact body_1 rfl (ev_tv rfl rfl) H

/-- parapet/parapetlaw07.looks -/
def Vc19 (a_t1 : Option Addr) (a_x2 : Option Addr) (w : World) (R : Ending → World → Prop) : Prop :=
  (Calls Try.prog 31 #[.pointer a_t1] (w.drew) fun e w4 => ∃ x3 : Int, e = .returned (.int .i64 x3) ∧ (Calls Try.prog 32 #[.pointer a_x2] w4 fun e w6 => ∃ x5 : Int, e = .returned (.int .i64 x5) ∧ (((¬ ((x3 : Int) = x5)) → R (.returned (.bool false)) w6) ∧ (((x3 : Int) = x5) → (∃ (b7 o8 : Nat), a_x2 = some ⟨b7, o8, none⟩ ∧ (∃ x9 : Option Addr, ∃ x9l : Nat, ∃ x9c : Nat, World.cell? w6 ⟨b7, o8 + 1, none⟩ = some (.slice x9 x9l x9c) ∧ (Calls Try.prog 33 #[.pointer a_t1] w6 fun e w11 => ∃ x10 : Int, e = .returned (.int .i64 x10) ∧ (World.cell? w11 ⟨b7, o8 + 1, none⟩ = some (.slice x9 x9l x9c) ∧ (((¬ ((x10 : Int) = ((x9l : Nat) : Int))) → R (.returned (.bool false)) w11) ∧ (((x10 : Int) = ((x9l : Nat) : Int)) → (∃ I13 : Nat → Int → World → Prop, (∃ m, I13 m (-1) w11) ∧ ∀ (m13 : Nat) (v12 : Int) (w14 : World), I13 m13 v12 w14 → (∃ x15 : Option Addr, ∃ x15l : Nat, ∃ x15c : Nat, World.cell? w14 ⟨b7, o8 + 1, none⟩ = some (.slice x15 x15l x15c) ∧ ((((v12 : Int) ≤ ((x15l : Nat) : Int)) → (Calls Try.prog 11 #[.pointer a_t1, .int .i64 v12] w14 fun e w17 => ∃ x16 : Option Addr, ∃ x16l : Nat, ∃ x16c : Nat, e = .returned (.slice x16 x16l x16c) ∧ (Calls Try.prog 34 #[.pointer (some ⟨b7, o8, none⟩), .int .i64 v12] w17 fun e w20 => ∃ x19 : Option Addr, ∃ x19l : Nat, ∃ x19c : Nat, e = .returned (.slice x19 x19l x19c) ∧ (Calls Try.prog 14 #[.pointer a_t1, .int .i64 v12] w20 fun e w23 => ∃ x22 : Option Addr, ∃ x22l : Nat, ∃ x22c : Nat, e = .returned (.slice x22 x22l x22c) ∧ (∃ J29 : Int → World → Prop, (∀ (v25 : Int) (w26 : World), J29 v25 w26 → (((¬ ((((x16l : Nat) : Int) : Int) = ((x19l : Nat) : Int))) → R (.returned (.bool false)) w26) ∧ (((((x16l : Nat) : Int) : Int) = ((x19l : Nat) : Int)) → (((¬ ((((x22l : Nat) : Int) : Int) = v25)) → R (.returned (.bool false)) w26) ∧ (((((x22l : Nat) : Int) : Int) = v25) → (∃ J44 : World → Prop, (∀  (w27 : World), J44  w27 → (∃ I51 : Nat → Int → World → Prop, (∃ m, I51 m 0 w27) ∧ ∀ (m29 : Nat) (v28 : Int) (w30 : World), I51 m29 v28 w30 → ((((v28 : Int) < v25) → (∃ (b31 o32 : Nat), x22 = some ⟨b31, o32, none⟩ ∧ ((0 : Int) ≤ v28 ∧ v28 < ((x22l : Nat) : Int) ∧ (∃ x33 : Int, ∃ x34 : Int, CellsAt (w30.drew) ⟨b31, o32 + (v28 : Int).toNat * 2, none⟩ [.int .i64 x33, .int .i64 x34] ∧ (∃ x35 : Option Addr, ∃ x35l : Nat, ∃ x35c : Nat, World.cell? (w30.drew) ⟨b7, o8 + 1, none⟩ = some (.slice x35 x35l x35c) ∧ (∃ (b36 o37 : Nat), x35 = some ⟨b36, o37, none⟩ ∧ ((0 : Int) ≤ v12 ∧ v12 < ((x35l : Nat) : Int) ∧ (∃ x38 : Option Addr, ∃ x38l : Nat, ∃ x38c : Nat, World.cell? (w30.drew) ⟨b36, o37 + (v12 : Int).toNat, none⟩ = some (.slice x38 x38l x38c) ∧ (∃ (b39 o40 : Nat), x38 = some ⟨b39, o40, none⟩ ∧ ((0 : Int) ≤ v28 ∧ v28 < ((x38l : Nat) : Int) ∧ (∃ x41 : Int, ∃ x42 : Int, CellsAt (w30.drew) ⟨b39, o40 + (v28 : Int).toNat * 3, none⟩ [.int .i64 x41, .int .i64 x42] ∧ (∃ q43 : Bool, (∀ w' : World, (eqGuard .neq 31 (.tmp 98) (.tmp 109) (.agg #[.int .i64 x33, .int .i64 x34]) (.agg #[.int .i64 x41, .int .i64 x42])).run Try.prog w' = .ok () w') ∧ (∀ w' : World, (binOp .neq 31 (.agg #[.int .i64 x33, .int .i64 x34]) (.agg #[.int .i64 x41, .int .i64 x42])).run Try.prog w' = .ok (.bool q43) w') ∧ (((q43 = true) → R (.returned (.bool false)) (w30.drew)) ∧ ((q43 = false) → (∀ r44 : Int, r44 = IntKind.wrap .i64 (v28 + 1) → (∃ m45, m45 < m29 ∧ I51 m45 r44 (w30.drew))))))))))))))))) ∧ ((¬ ((v28 : Int) < v25)) → (∀ r46 : Int, r46 = IntKind.wrap .i64 (v12 + 1) → (∃ m47, m47 < m13 ∧ I13 m47 r46 w30)))))) ∧ (∃ I84 : Nat → Int → World → Prop, (∃ m, I84 m 0 w26) ∧ ∀ (m49 : Nat) (v48 : Int) (w50 : World), I84 m49 v48 w50 → ((((v48 : Int) < ((x16l : Nat) : Int)) → (∃ (b51 o52 : Nat), x16 = some ⟨b51, o52, none⟩ ∧ ((0 : Int) ≤ v48 ∧ v48 < ((x16l : Nat) : Int) ∧ (∃ (b53 o54 : Nat), x19 = some ⟨b53, o54, none⟩ ∧ ((0 : Int) ≤ v48 ∧ v48 < ((x19l : Nat) : Int) ∧ (∃ x55 : Int, World.cell? (w50.drew) ⟨b51, o52 + (v48 : Int).toNat, none⟩ = some (.int .i64 x55) ∧ (∃ x56 : Int, World.cell? (w50.drew) ⟨b53, o54 + (v48 : Int).toNat, none⟩ = some (.int .i64 x56) ∧ (((¬ ((x55 : Int) = x56)) → R (.returned (.bool false)) (w50.drew)) ∧ (((x55 : Int) = x56) → (∀ r57 : Int, r57 = IntKind.wrap .i64 (v48 + 1) → (∃ m58, m58 < m49 ∧ I84 m58 r57 (w50.drew)))))))))))) ∧ ((¬ ((v48 : Int) < ((x16l : Nat) : Int))) → J44  w50))))))))) ∧ (∃ J108 : Bool → World → Prop, (∀ (v59 : Bool) (w60 : World), J108 v59 w60 → (((v59 = true) → (∃ x61 : Option Addr, ∃ x61l : Nat, ∃ x61c : Nat, World.cell? w60 ⟨b7, o8 + 1, none⟩ = some (.slice x61 x61l x61c) ∧ (∃ (b62 o63 : Nat), x61 = some ⟨b62, o63, none⟩ ∧ ((0 : Int) ≤ v12 ∧ v12 < ((x61l : Nat) : Int) ∧ (∃ x64 : Option Addr, ∃ x64l : Nat, ∃ x64c : Nat, World.cell? w60 ⟨b62, o63 + (v12 : Int).toNat, none⟩ = some (.slice x64 x64l x64c) ∧ J29 ((x64l : Nat) : Int) w60))))) ∧ ((v59 = false) → J29 0 w60))) ∧ ((((0 : Int) ≤ v12) → (∃ x65 : Option Addr, ∃ x65l : Nat, ∃ x65c : Nat, World.cell? w23 ⟨b7, o8 + 1, none⟩ = some (.slice x65 x65l x65c) ∧ J108 (decide ((v12 : Int) < ((x65l : Nat) : Int))) w23)) ∧ ((¬ ((0 : Int) ≤ v12)) → J108 false w23)))))))) ∧ ((¬ ((v12 : Int) ≤ ((x15l : Nat) : Int))) → R (.returned (.bool true)) w14))))))))))))))

theorem vc19 {a_t1 : Option Addr} {a_x2 : Option Addr} {w : World} {R : Ending → World → Prop} (H : Vc19 a_t1 a_x2 w R) : Calls Try.prog 19 #[.pointer a_t1, .pointer a_x2] w R := by
  unfold Vc19 at H
  refine calls_start [.pointer a_t1, .pointer a_x2] Try.func19 rfl Try.ntmps19 rfl ?_
  refine c_seq ?_
  intro K1 hK1
  refine c_region ?_
  refine L_val (v := .bool false) (y_assign ev_c) ?_
  refine l_nil ?_
  refine then_norm ?_
  refine hK1 _ _ ?_
  clear hK1
  refine c_seq ?_
  intro K2 hK2
  refine c_seq ?_
  intro K3 hK3
  refine D_start Try.mixed rfl [1, 3, 7] ?_
  refine start_keep fun hS => ?_
  refine D_pure (i := 0) (v := .pointer a_t1) rfl (by kernel_rfl) (W_none rfl) (fun _ => y_move (ev_tv rfl rfl)) hS ?_
  intro hS
  refine D_pure (i := 2) (v := .pointer a_x2) rfl (by kernel_rfl) (W_none rfl) (fun _ => y_move (ev_tv rfl rfl)) hS ?_
  intro hS
  refine D_only (i := 1) (by kernel_rfl) rfl ?_
  refine O_call (i := 1) rfl (W_none rfl) (y_call Try.call31 (map_ev1 (ev_tv rfl rfl)) ev_f) (Calls.mono H ?_)
  clear H
  rintro _ w4 ⟨x3, rfl, H⟩
  refine ⟨_, rfl, ?_⟩
  refine and_keep SS_nil fun hS => ?_
  refine D_only (i := 3) (by kernel_rfl) rfl ?_
  refine O_call (i := 3) rfl (W_none rfl) (y_call Try.call32 (map_ev1 (ev_tv rfl rfl)) ev_f) (Calls.mono H ?_)
  clear H
  rintro _ w6 ⟨x5, rfl, H⟩
  refine ⟨_, rfl, ?_⟩
  refine and_keep SS_nil fun hS => ?_
  refine D_pure (i := 4) (v := .bool (!decide ((x3 : Int) = x5))) rfl (by kernel_rfl) (W_none rfl) (fun _ => y_ine (ev_tv rfl rfl) (ev_tv rfl rfl)) hS ?_
  intro hS
  refine D_pure (i := 5) (v := .bool (!decide ((x3 : Int) = x5))) rfl (by kernel_rfl) (W_none rfl) (fun _ => y_move (ev_tv rfl rfl)) hS ?_
  intro hS
  rcases (Decidable.em ((x3 : Int) = x5)).symm with hb4 | hb4
  · replace H := H.1 hb4
    have hq5 : Value.bool (!decide ((x3 : Int) = x5)) = Value.bool true := congrArg Value.bool (ndec_t hb4)
    refine D_not (i := 6) rfl (by kernel_rfl) (W_no (dj := 17) (b' := true) rfl rfl rfl hq5 rfl) hS ?_
    intro hS
    refine D_not (i := 8) rfl (by kernel_rfl) (W_no (dj := 17) (b' := true) rfl rfl rfl hq5 rfl) hS ?_
    intro hS
    refine D_not (i := 9) rfl (by kernel_rfl) (W_no (dj := 17) (b' := true) rfl rfl rfl hq5 rfl) hS ?_
    intro hS
    refine D_not (i := 10) rfl (by kernel_rfl) (W_no (dj := 17) (b' := true) rfl rfl rfl hq5 rfl) hS ?_
    intro hS
    refine D_not (i := 11) rfl (by kernel_rfl) (W_no (dj := 17) (b' := true) rfl rfl rfl hq5 rfl) hS ?_
    intro hS
    refine D_not (i := 12) rfl (by kernel_rfl) (W_no (dj := 17) (b' := true) rfl rfl rfl hq5 rfl) hS ?_
    intro hS
    refine D_only (i := 7) (by kernel_rfl) rfl ?_
    refine O_not (i := 7) rfl (W_no (dj := 17) (b' := true) rfl rfl rfl hq5 rfl) ?_
    refine and_keep (SS_mono hS) fun hS => ?_
    refine D_not (i := 13) rfl (by kernel_rfl) (W_no (dj := 17) (b' := true) rfl rfl rfl hq5 rfl) hS ?_
    intro hS
    refine D_pure (i := 14) (v := .bool true) rfl (by kernel_rfl) (W_none rfl) (fun _ => y_pick_t (ev_tv rfl hq5) ev_c) hS ?_
    intro hS
    refine D_done (by kernel_rfl) ?_
    refine then_norm ?_
    refine hK3 _ _ ?_
    clear hK3
    refine cond_t (ev_tv rfl rfl) ?_
    refine c_seq ?_
    intro K6 hK6
    refine c_region ?_
    refine L_val (v := .bool false) (y_assign ev_c) ?_
    refine l_nil ?_
    refine then_norm ?_
    refine hK6 _ _ ?_
    clear hK6
    refine c_ret ?_
    refine then_ret ?_
    exact body_1 rfl (ev_tv rfl rfl) H
  · replace H := H.2 hb4
    have hq5 : Value.bool (!decide ((x3 : Int) = x5)) = Value.bool false := congrArg Value.bool (ndec_f hb4)
    refine D_pure (i := 6) (v := .pointer a_t1) rfl (by kernel_rfl) (W_yes (dj := 17) rfl rfl rfl hq5) (fun _ => y_move (ev_tv rfl rfl)) hS ?_
    intro hS
    refine D_pure (i := 8) (v := .pointer a_x2) rfl (by kernel_rfl) (W_yes (dj := 17) rfl rfl rfl hq5) (fun _ => y_move (ev_tv rfl rfl)) hS ?_
    intro hS
    obtain ⟨b7, o8, rfl, H⟩ := H
    refine D_pure (i := 9) (v := .pointer (some ⟨b7, o8, none⟩)) rfl (by kernel_rfl) (W_yes (dj := 17) rfl rfl rfl hq5) (fun _ => y_nilCheck (ev_tv rfl rfl)) hS ?_
    intro hS
    refine D_pure (i := 10) (v := .pointer (some ⟨b7, o8 + 1, none⟩)) rfl (by kernel_rfl) (W_yes (dj := 17) rfl rfl rfl hq5) (fun _ => Try.fa71_1 (ev_tv rfl rfl)) hS ?_
    intro hS
    obtain ⟨x9, x9l, x9c, hc7, H⟩ := H
    refine D_read (i := 11) (v := .slice x9 x9l x9c) rfl (by kernel_rfl) (W_yes (dj := 17) rfl rfl rfl hq5) (fun wx => World.cell? wx ⟨b7, o8 + 1, none⟩ = some (.slice x9 x9l x9c)) hc7 (fun _ hcx => y_load Try.underlying68 rfl (ev_tv rfl rfl) hcx) hS ?_
    intro hS
    refine D_pure (i := 12) (v := .int .i64 ((x9l : Nat) : Int)) rfl (by kernel_rfl) (W_yes (dj := 17) rfl rfl rfl hq5) (fun _ => y_len Try.underlying68 rfl (map_ev1 (ev_tv rfl rfl))) hS ?_
    intro hS
    refine D_only (i := 7) (by kernel_rfl) rfl ?_
    refine O_call (i := 7) rfl (W_yes (dj := 17) rfl rfl rfl hq5) (y_call Try.call33 (map_ev1 (ev_tv rfl rfl)) ev_f) (Calls.mono H ?_)
    clear H
    rintro _ w11 ⟨x10, rfl, H⟩
    refine ⟨_, rfl, ?_⟩
    obtain ⟨hs125, H⟩ := H
    refine and_keep (SS_on hs125 SS_nil) fun hS => ?_
    refine D_pure (i := 13) (v := .bool (!decide ((x10 : Int) = ((x9l : Nat) : Int)))) rfl (by kernel_rfl) (W_yes (dj := 17) rfl rfl rfl hq5) (fun _ => y_ine (ev_tv rfl rfl) (ev_tv rfl rfl)) hS ?_
    intro hS
    refine D_pure (i := 14) (v := .bool (!decide ((x10 : Int) = ((x9l : Nat) : Int)))) rfl (by kernel_rfl) (W_none rfl) (fun _ => y_pick_f (ev_tv rfl hq5) (ev_tv rfl rfl)) hS ?_
    intro hS
    refine D_done (by kernel_rfl) ?_
    refine then_norm ?_
    refine hK3 _ _ ?_
    clear hK3
    rcases (Decidable.em ((x10 : Int) = ((x9l : Nat) : Int))).symm with hb8 | hb8
    · replace H := H.1 hb8
      have hq9 : Value.bool (!decide ((x10 : Int) = ((x9l : Nat) : Int))) = Value.bool true := congrArg Value.bool (ndec_t hb8)
      refine cond_t (ev_tv rfl hq9) ?_
      refine c_seq ?_
      intro K10 hK10
      refine c_region ?_
      refine L_val (v := .bool false) (y_assign ev_c) ?_
      refine l_nil ?_
      refine then_norm ?_
      refine hK10 _ _ ?_
      clear hK10
      refine c_ret ?_
      refine then_ret ?_
      exact body_1 rfl (ev_tv rfl rfl) H
    · replace H := H.2 hb8
      have hq9 : Value.bool (!decide ((x10 : Int) = ((x9l : Nat) : Int))) = Value.bool false := congrArg Value.bool (ndec_f hb8)
      refine cond_f (ev_tv rfl hq9) ?_
      refine c_skip ?_
      refine then_norm ?_
      refine hK2 _ _ ?_
      clear hK2
      refine c_seq ?_
      intro K11 hK11
      refine c_seq ?_
      intro K12 hK12
      refine c_region ?_
      refine L_val (v := .int .i64 (-1)) (y_assign ev_c) ?_
      refine l_nil ?_
      refine then_norm ?_
      refine hK12 _ _ ?_
      clear hK12
      refine c_block ?_
      obtain ⟨I13, ⟨m17, HI18⟩, H⟩ := H
      refine loop_fr ([(4, 11), (27, 110)]) (fun m ff ww => ∃ (v12 : Int), ff 5 = (.int .i64 v12 : Value) ∧ I13 m v12 ww) m17 ⟨(-1), rfl, HI18⟩ ?_
      rintro m13 f14 w14 hag15 ⟨v12, hs19, HI16⟩
      replace H := H m13 v12 w14 HI16
      refine c_seq ?_
      intro K20 hK20
      refine c_seq ?_
      intro K21 hK21
      refine c_region ?_
      refine L_val (v := .int .i64 v12) (y_move (ev_tv rfl hs19)) ?_
      refine L_val (v := .pointer (some ⟨b7, o8, none⟩)) (y_move (ev_tv rfl ((hag15 1 rfl).trans rfl))) ?_
      refine L_val (v := .pointer (some ⟨b7, o8, none⟩)) (y_nilCheck (ev_tv rfl rfl)) ?_
      refine L_val (v := .pointer (some ⟨b7, o8 + 1, none⟩)) (Try.fa71_1 (ev_tv rfl rfl)) ?_
      obtain ⟨x15, x15l, x15c, hc22, H⟩ := H
      refine L_val (v := .slice x15 x15l x15c) (y_load Try.underlying68 rfl (ev_tv rfl rfl) hc22) ?_
      refine L_val (v := .int .i64 ((x15l : Nat) : Int)) (y_len Try.underlying68 rfl (map_ev1 (ev_tv rfl rfl))) ?_
      refine L_val (v := .bool (decide ((v12 : Int) ≤ ((x15l : Nat) : Int)))) (y_leq (ev_tv rfl rfl) (ev_tv rfl rfl)) ?_
      refine l_nil ?_
      refine then_norm ?_
      refine hK21 _ _ ?_
      clear hK21
      rcases (Decidable.em ((v12 : Int) ≤ ((x15l : Nat) : Int))) with hb23 | hb23
      · replace H := H.1 hb23
        have hq24 : Value.bool (decide ((v12 : Int) ≤ ((x15l : Nat) : Int))) = Value.bool true := congrArg Value.bool (decide_eq_true hb23)
        refine cond_t (ev_tv rfl hq24) ?_
        refine c_skip ?_
        refine then_norm ?_
        refine hK20 _ _ ?_
        clear hK20
        refine c_seq ?_
        intro K25 hK25
        refine c_block ?_
        refine c_seq ?_
        intro K26 hK26
        refine c_region ?_
        refine L_val (v := .pointer a_t1) (y_move (ev_tv rfl ((hag15 0 rfl).trans rfl))) ?_
        refine L_val (v := .int .i64 v12) (y_move (ev_tv rfl hs19)) ?_
        refine L_call (y_call Try.call11 (map_ev2 (ev_tv rfl rfl) (ev_tv rfl rfl)) ev_f) (Calls.mono H ?_)
        clear H
        rintro _ w17 ⟨x16, x16l, x16c, rfl, H⟩
        refine ⟨_, rfl, ?_⟩
        refine L_val (v := .pointer (some ⟨b7, o8, none⟩)) (y_move (ev_tv rfl ((hag15 1 rfl).trans rfl))) ?_
        refine L_val (v := .int .i64 v12) (y_move (ev_tv rfl hs19)) ?_
        refine L_call (y_call Try.call34 (map_ev2 (ev_tv rfl rfl) (ev_tv rfl rfl)) ev_f) (Calls.mono H ?_)
        clear H
        rintro _ w20 ⟨x19, x19l, x19c, rfl, H⟩
        refine ⟨_, rfl, ?_⟩
        refine L_val (v := .slice x16 x16l x16c) (y_assign (ev_tv rfl rfl)) ?_
        refine L_val (v := .slice x19 x19l x19c) (y_assign (ev_tv rfl rfl)) ?_
        refine l_nil ?_
        refine then_norm ?_
        refine hK26 _ _ ?_
        clear hK26
        refine c_seq ?_
        intro K27 hK27
        refine c_region ?_
        refine L_val (v := .pointer a_t1) (y_move (ev_tv rfl ((hag15 0 rfl).trans rfl))) ?_
        refine L_val (v := .int .i64 v12) (y_move (ev_tv rfl hs19)) ?_
        refine L_call (y_call Try.call14 (map_ev2 (ev_tv rfl rfl) (ev_tv rfl rfl)) ev_f) (Calls.mono H ?_)
        clear H
        rintro _ w23 ⟨x22, x22l, x22c, rfl, H⟩
        refine ⟨_, rfl, ?_⟩
        refine L_val (v := .slice x22 x22l x22c) (y_assign (ev_tv rfl rfl)) ?_
        refine l_nil ?_
        refine then_norm ?_
        refine hK27 _ _ ?_
        clear hK27
        refine c_seq ?_
        intro K28 hK28
        refine c_region ?_
        refine L_val (v := .int .i64 0) (y_assign ev_c) ?_
        refine l_nil ?_
        refine then_norm ?_
        refine hK28 _ _ ?_
        clear hK28
        obtain ⟨J29, hJ30, H⟩ := H
        refine c_seqJ [(9, 9), (45, 63)] (fun ff ww => ∃ (v25 : Int), ff 9 = (.int .i64 v25 : Value) ∧ J29 v25 ww) ?_ ?_
        · clear hJ30
          intro K34 hK34
          obtain ⟨J108, hJ109, H⟩ := H
          refine c_seqJ [(45, 55)] (fun ff ww => ∃ (v59 : Bool), ff 55 = (.bool v59 : Value) ∧ J108 v59 ww) ?_ ?_
          · clear hJ109
            intro K113 hK113
            refine c_region ?_
            refine L_val (v := .int .i64 v12) (y_move (ev_tv rfl hs19)) ?_
            refine L_val (v := .bool (decide ((0 : Int) ≤ v12))) (y_geq (ev_tv rfl rfl) ev_c) ?_
            refine L_val (v := .bool (decide ((0 : Int) ≤ v12))) (y_move (ev_tv rfl rfl)) ?_
            rcases (Decidable.em ((0 : Int) ≤ v12)) with hb121 | hb121
            · replace H := H.1 hb121
              have hq122 : Value.bool (decide ((0 : Int) ≤ v12)) = Value.bool true := congrArg Value.bool (decide_eq_true hb121)
              refine G_val (dj := 47) rfl rfl hq122 (v := .int .i64 v12) (y_move (ev_tv rfl hs19)) ?_
              refine G_val (dj := 47) rfl rfl hq122 (v := .pointer (some ⟨b7, o8, none⟩)) (y_move (ev_tv rfl ((hag15 1 rfl).trans rfl))) ?_
              refine G_val (dj := 47) rfl rfl hq122 (v := .pointer (some ⟨b7, o8, none⟩)) (y_nilCheck (ev_tv rfl rfl)) ?_
              refine G_val (dj := 47) rfl rfl hq122 (v := .pointer (some ⟨b7, o8 + 1, none⟩)) (Try.fa71_1 (ev_tv rfl rfl)) ?_
              obtain ⟨x65, x65l, x65c, hc123, H⟩ := H
              refine G_val (dj := 47) rfl rfl hq122 (v := .slice x65 x65l x65c) (y_load Try.underlying68 rfl (ev_tv rfl rfl) hc123) ?_
              refine G_val (dj := 47) rfl rfl hq122 (v := .int .i64 ((x65l : Nat) : Int)) (y_len Try.underlying68 rfl (map_ev1 (ev_tv rfl rfl))) ?_
              refine G_val (dj := 47) rfl rfl hq122 (v := .bool (decide ((v12 : Int) < ((x65l : Nat) : Int)))) (y_lss (ev_tv rfl rfl) (ev_tv rfl rfl)) ?_
              refine L_val (v := .bool (decide ((v12 : Int) < ((x65l : Nat) : Int)))) (y_pick_t (ev_tv rfl hq122) (ev_tv rfl rfl)) ?_
              refine l_nil ?_
              refine then_norm ?_
              exact hK113 _ _ (by repeat (first | exact agree_refl | exact hag15 | refine agree_upd rfl ?_ | refine agree_via hag15 rfl ?_)) ⟨_, rfl, H⟩
            · replace H := H.2 hb121
              have hq122 : Value.bool (decide ((0 : Int) ≤ v12)) = Value.bool false := congrArg Value.bool (decide_eq_false hb121)
              refine G_not (b' := false) (dj := 47) rfl rfl hq122 rfl ?_
              refine G_not (b' := false) (dj := 47) rfl rfl hq122 rfl ?_
              refine G_not (b' := false) (dj := 47) rfl rfl hq122 rfl ?_
              refine G_not (b' := false) (dj := 47) rfl rfl hq122 rfl ?_
              refine G_not (b' := false) (dj := 47) rfl rfl hq122 rfl ?_
              refine G_not (b' := false) (dj := 47) rfl rfl hq122 rfl ?_
              refine G_not (b' := false) (dj := 47) rfl rfl hq122 rfl ?_
              refine L_val (v := .bool false) (y_pick_f (ev_tv rfl hq122) ev_c) ?_
              refine l_nil ?_
              refine then_norm ?_
              exact hK113 _ _ (by repeat (first | exact agree_refl | exact hag15 | refine agree_upd rfl ?_ | refine agree_via hag15 rfl ?_)) ⟨_, rfl, H⟩
          · clear H
            rintro f110 w60 hag111 ⟨v59, hs114, HJ112⟩
            have H := hJ109 v59 w60 HJ112
            clear hJ109
            rcases Bool.eq_false_or_eq_true v59 with hb115 | hb115
            · replace H := H.1 hb115
              have hq116 : Value.bool (v59) = Value.bool true := congrArg Value.bool hb115
              refine cond_t (ev_tv rfl (hs114.trans hq116)) ?_
              refine c_region ?_
              refine L_val (v := .pointer (some ⟨b7, o8, none⟩)) (y_move (ev_tv rfl ((hag111 1 rfl).trans ((hag15 1 rfl).trans rfl)))) ?_
              refine L_val (v := .pointer (some ⟨b7, o8, none⟩)) (y_nilCheck (ev_tv rfl rfl)) ?_
              refine L_val (v := .pointer (some ⟨b7, o8 + 1, none⟩)) (Try.fa71_1 (ev_tv rfl rfl)) ?_
              obtain ⟨x61, x61l, x61c, hc117, H⟩ := H
              refine L_val (v := .slice x61 x61l x61c) (y_load Try.underlying68 rfl (ev_tv rfl rfl) hc117) ?_
              refine L_val (v := .int .i64 v12) (y_move (ev_tv rfl ((hag111 5 rfl).trans hs19))) ?_
              obtain ⟨b62, o63, rfl, H⟩ := H
              obtain ⟨hi118, hi119, H⟩ := H
              refine L_val (v := .pointer (some ⟨b62, o63 + (v12 : Int).toNat, none⟩)) (y_ix1 Try.underlying68 Try.type73 rfl (ev_tv rfl rfl) (ev_tv rfl rfl) hi118 hi119) ?_
              obtain ⟨x64, x64l, x64c, hc120, H⟩ := H
              refine L_val (v := .slice x64 x64l x64c) (y_load Try.underlying73 rfl (ev_tv rfl rfl) hc120) ?_
              refine L_val (v := .int .i64 ((x64l : Nat) : Int)) (y_len Try.underlying73 rfl (map_ev1 (ev_tv rfl rfl))) ?_
              refine L_val (v := .int .i64 ((x64l : Nat) : Int)) (y_assign (ev_tv rfl rfl)) ?_
              refine l_nil ?_
              refine then_norm ?_
              exact hK34 _ _ (by repeat (first | exact agree_refl | exact hag111 | exact hag15 | refine agree_upd rfl ?_ | refine agree_via hag111 rfl ?_ | refine agree_via hag15 rfl ?_)) ⟨_, rfl, H⟩
            · replace H := H.2 hb115
              have hq116 : Value.bool (v59) = Value.bool false := congrArg Value.bool hb115
              refine cond_f (ev_tv rfl (hs114.trans hq116)) ?_
              refine c_skip ?_
              refine then_norm ?_
              exact hK34 _ _ (by repeat (first | exact agree_refl | exact hag111 | exact hag15 | refine agree_upd rfl ?_ | refine agree_via hag111 rfl ?_ | refine agree_via hag15 rfl ?_)) ⟨_, ((hag111 9 rfl).trans rfl), H⟩
        · clear H
          rintro f31 w26 hag32 ⟨v25, hs35, HJ33⟩
          have H := hJ30 v25 w26 HJ33
          clear hJ30
          refine c_seq ?_
          intro K36 hK36
          refine c_seq ?_
          intro K37 hK37
          refine c_region ?_
          refine L_val (v := .slice x16 x16l x16c) (y_move (ev_tv rfl ((hag32 6 rfl).trans rfl))) ?_
          refine L_val (v := .int .i64 ((x16l : Nat) : Int)) (y_len Try.underlying23 rfl (map_ev1 (ev_tv rfl rfl))) ?_
          refine L_val (v := .slice x19 x19l x19c) (y_move (ev_tv rfl ((hag32 7 rfl).trans rfl))) ?_
          refine L_val (v := .int .i64 ((x19l : Nat) : Int)) (y_len Try.underlying23 rfl (map_ev1 (ev_tv rfl rfl))) ?_
          refine L_val (v := .bool (!decide ((((x16l : Nat) : Int) : Int) = ((x19l : Nat) : Int)))) (y_ine (ev_tv rfl rfl) (ev_tv rfl rfl)) ?_
          refine L_val (v := .bool (!decide ((((x16l : Nat) : Int) : Int) = ((x19l : Nat) : Int)))) (y_move (ev_tv rfl rfl)) ?_
          rcases (Decidable.em ((((x16l : Nat) : Int) : Int) = ((x19l : Nat) : Int))).symm with hb38 | hb38
          · replace H := H.1 hb38
            have hq39 : Value.bool (!decide ((((x16l : Nat) : Int) : Int) = ((x19l : Nat) : Int))) = Value.bool true := congrArg Value.bool (ndec_t hb38)
            refine G_not (b' := true) (dj := 69) rfl rfl hq39 rfl ?_
            refine G_not (b' := true) (dj := 69) rfl rfl hq39 rfl ?_
            refine G_not (b' := true) (dj := 69) rfl rfl hq39 rfl ?_
            refine G_not (b' := true) (dj := 69) rfl rfl hq39 rfl ?_
            refine L_val (v := .bool true) (y_pick_t (ev_tv rfl hq39) ev_c) ?_
            refine l_nil ?_
            refine then_norm ?_
            refine hK37 _ _ ?_
            clear hK37
            refine cond_t (ev_tv rfl rfl) ?_
            refine c_seq ?_
            intro K40 hK40
            refine c_region ?_
            refine L_val (v := .bool false) (y_assign ev_c) ?_
            refine l_nil ?_
            refine then_norm ?_
            refine hK40 _ _ ?_
            clear hK40
            refine c_ret ?_
            refine then_ret ?_
            refine block_ret ?_
            refine then_ret ?_
            refine then_ret ?_
            refine block_ret ?_
            refine then_ret ?_
            exact body_1 rfl (ev_tv rfl rfl) H
          · replace H := H.2 hb38
            have hq39 : Value.bool (!decide ((((x16l : Nat) : Int) : Int) = ((x19l : Nat) : Int))) = Value.bool false := congrArg Value.bool (ndec_f hb38)
            refine G_val (dj := 69) rfl rfl hq39 (v := .slice x22 x22l x22c) (y_move (ev_tv rfl ((hag32 8 rfl).trans rfl))) ?_
            refine G_val (dj := 69) rfl rfl hq39 (v := .int .i64 ((x22l : Nat) : Int)) (y_len Try.underlying40 rfl (map_ev1 (ev_tv rfl rfl))) ?_
            refine G_val (dj := 69) rfl rfl hq39 (v := .int .i64 v25) (y_move (ev_tv rfl hs35)) ?_
            refine G_val (dj := 69) rfl rfl hq39 (v := .bool (!decide ((((x22l : Nat) : Int) : Int) = v25))) (y_ine (ev_tv rfl rfl) (ev_tv rfl rfl)) ?_
            refine L_val (v := .bool (!decide ((((x22l : Nat) : Int) : Int) = v25))) (y_pick_f (ev_tv rfl hq39) (ev_tv rfl rfl)) ?_
            refine l_nil ?_
            refine then_norm ?_
            refine hK37 _ _ ?_
            clear hK37
            rcases (Decidable.em ((((x22l : Nat) : Int) : Int) = v25)).symm with hb41 | hb41
            · replace H := H.1 hb41
              have hq42 : Value.bool (!decide ((((x22l : Nat) : Int) : Int) = v25)) = Value.bool true := congrArg Value.bool (ndec_t hb41)
              refine cond_t (ev_tv rfl hq42) ?_
              refine c_seq ?_
              intro K43 hK43
              refine c_region ?_
              refine L_val (v := .bool false) (y_assign ev_c) ?_
              refine l_nil ?_
              refine then_norm ?_
              refine hK43 _ _ ?_
              clear hK43
              refine c_ret ?_
              refine then_ret ?_
              refine block_ret ?_
              refine then_ret ?_
              refine then_ret ?_
              refine block_ret ?_
              refine then_ret ?_
              exact body_1 rfl (ev_tv rfl rfl) H
            · replace H := H.2 hb41
              have hq42 : Value.bool (!decide ((((x22l : Nat) : Int) : Int) = v25)) = Value.bool false := congrArg Value.bool (ndec_f hb41)
              refine cond_f (ev_tv rfl hq42) ?_
              refine c_skip ?_
              refine then_norm ?_
              refine hK36 _ _ ?_
              clear hK36
              obtain ⟨J44, hJ45, H⟩ := H
              refine c_seqJ [(4, 4), (10, 10), (75, 89)] (fun ff ww => J44  ww) ?_ ?_
              · clear hJ45
                intro K49 hK49
                refine c_seq ?_
                intro K83 hK83
                refine c_region ?_
                refine L_val (v := .int .i64 0) (y_assign ev_c) ?_
                refine l_nil ?_
                refine then_norm ?_
                refine hK83 _ _ ?_
                clear hK83
                refine c_block ?_
                obtain ⟨I84, ⟨m88, HI89⟩, H⟩ := H
                refine loop_fr ([(4, 4), (10, 10), (75, 89)]) (fun m ff ww => ∃ (v48 : Int), ff 10 = (.int .i64 v48 : Value) ∧ I84 m v48 ww) m88 ⟨0, rfl, HI89⟩ ?_
                rintro m49 f85 w50 hag86 ⟨v48, hs90, HI87⟩
                replace H := H m49 v48 w50 HI87
                refine c_seq ?_
                intro K91 hK91
                refine c_seq ?_
                intro K92 hK92
                refine c_region ?_
                refine L_val (v := .int .i64 v48) (y_move (ev_tv rfl hs90)) ?_
                refine L_val (v := .slice x16 x16l x16c) (y_move (ev_tv rfl ((hag86 6 rfl).trans ((hag32 6 rfl).trans rfl)))) ?_
                refine L_val (v := .int .i64 ((x16l : Nat) : Int)) (y_len Try.underlying23 rfl (map_ev1 (ev_tv rfl rfl))) ?_
                refine L_val (v := .bool (decide ((v48 : Int) < ((x16l : Nat) : Int)))) (y_lss (ev_tv rfl rfl) (ev_tv rfl rfl)) ?_
                refine l_nil ?_
                refine then_norm ?_
                refine hK92 _ _ ?_
                clear hK92
                rcases (Decidable.em ((v48 : Int) < ((x16l : Nat) : Int))) with hb93 | hb93
                · replace H := H.1 hb93
                  have hq94 : Value.bool (decide ((v48 : Int) < ((x16l : Nat) : Int))) = Value.bool true := congrArg Value.bool (decide_eq_true hb93)
                  refine cond_t (ev_tv rfl hq94) ?_
                  refine c_skip ?_
                  refine then_norm ?_
                  refine hK91 _ _ ?_
                  clear hK91
                  refine c_seq ?_
                  intro K95 hK95
                  refine c_block ?_
                  refine c_seq ?_
                  intro K96 hK96
                  refine D_start Try.mixed rfl [] ?_
                  refine start_keep fun hS => ?_
                  refine D_pure (i := 0) (v := .slice x16 x16l x16c) rfl (by kernel_rfl) (W_none rfl) (fun _ => y_move (ev_tv rfl ((hag86 6 rfl).trans ((hag32 6 rfl).trans rfl)))) hS ?_
                  intro hS
                  refine D_pure (i := 1) (v := .int .i64 v48) rfl (by kernel_rfl) (W_none rfl) (fun _ => y_move (ev_tv rfl hs90)) hS ?_
                  intro hS
                  obtain ⟨b51, o52, rfl, H⟩ := H
                  obtain ⟨hi97, hi98, H⟩ := H
                  refine D_pure (i := 2) (v := .pointer (some ⟨b51, o52 + (v48 : Int).toNat, none⟩)) rfl (by kernel_rfl) (W_none rfl) (fun _ => y_ix1 Try.underlying23 Try.type3 rfl (ev_tv rfl rfl) (ev_tv rfl rfl) hi97 hi98) hS ?_
                  intro hS
                  refine D_pure (i := 4) (v := .slice x19 x19l x19c) rfl (by kernel_rfl) (W_none rfl) (fun _ => y_move (ev_tv rfl ((hag86 7 rfl).trans ((hag32 7 rfl).trans rfl)))) hS ?_
                  intro hS
                  refine D_pure (i := 5) (v := .int .i64 v48) rfl (by kernel_rfl) (W_none rfl) (fun _ => y_move (ev_tv rfl hs90)) hS ?_
                  intro hS
                  obtain ⟨b53, o54, rfl, H⟩ := H
                  obtain ⟨hi99, hi100, H⟩ := H
                  refine D_pure (i := 6) (v := .pointer (some ⟨b53, o54 + (v48 : Int).toNat, none⟩)) rfl (by kernel_rfl) (W_none rfl) (fun _ => y_ix1 Try.underlying23 Try.type3 rfl (ev_tv rfl rfl) (ev_tv rfl rfl) hi99 hi100) hS ?_
                  intro hS
                  obtain ⟨x55, hc101, H⟩ := H
                  refine D_read (i := 3) (v := .int .i64 x55) rfl (by kernel_rfl) (W_none rfl) (fun wx => World.cell? wx ⟨b51, o52 + (v48 : Int).toNat, none⟩ = some (.int .i64 x55)) hc101 (fun _ hcx => y_load Try.underlying3 rfl (ev_tv rfl rfl) hcx) hS ?_
                  intro hS
                  obtain ⟨x56, hc102, H⟩ := H
                  refine D_read (i := 7) (v := .int .i64 x56) rfl (by kernel_rfl) (W_none rfl) (fun wx => World.cell? wx ⟨b53, o54 + (v48 : Int).toNat, none⟩ = some (.int .i64 x56)) hc102 (fun _ hcx => y_load Try.underlying3 rfl (ev_tv rfl rfl) hcx) hS ?_
                  intro hS
                  refine D_pure (i := 8) (v := .bool (!decide ((x55 : Int) = x56))) rfl (by kernel_rfl) (W_none rfl) (fun _ => y_ine (ev_tv rfl rfl) (ev_tv rfl rfl)) hS ?_
                  intro hS
                  refine D_done (by kernel_rfl) ?_
                  refine then_norm ?_
                  refine hK96 _ _ ?_
                  clear hK96
                  rcases (Decidable.em ((x55 : Int) = x56)).symm with hb103 | hb103
                  · replace H := H.1 hb103
                    have hq104 : Value.bool (!decide ((x55 : Int) = x56)) = Value.bool true := congrArg Value.bool (ndec_t hb103)
                    refine cond_t (ev_tv rfl hq104) ?_
                    refine c_seq ?_
                    intro K105 hK105
                    refine c_region ?_
                    refine L_val (v := .bool false) (y_assign ev_c) ?_
                    refine l_nil ?_
                    refine then_norm ?_
                    refine hK105 _ _ ?_
                    clear hK105
                    refine c_ret ?_
                    refine block_ret ?_
                    refine then_ret ?_
                    refine then_ret ?_
                    refine block_ret ?_
                    refine then_ret ?_
                    refine block_ret ?_
                    refine then_ret ?_
                    refine then_ret ?_
                    refine block_ret ?_
                    refine then_ret ?_
                    exact body_1 rfl (ev_tv rfl rfl) H
                  · replace H := H.2 hb103
                    have hq104 : Value.bool (!decide ((x55 : Int) = x56)) = Value.bool false := congrArg Value.bool (ndec_f hb103)
                    refine cond_f (ev_tv rfl hq104) ?_
                    refine c_skip ?_
                    refine block_norm ?_
                    refine then_norm ?_
                    refine hK95 _ _ ?_
                    clear hK95
                    refine c_region ?_
                    refine L_val (v := .int .i64 v48) (y_move (ev_tv rfl hs90)) ?_
                    obtain ⟨r57, hr106⟩ : ∃ r57 : Int, r57 = IntKind.wrap .i64 (v48 + 1) := ⟨_, rfl⟩
                    replace H := H r57 hr106
                    refine L_val (v := .int .i64 r57) (y_add (ev_tv rfl rfl) ev_c hr106) ?_
                    refine L_val (v := .int .i64 r57) (y_assign (ev_tv rfl rfl)) ?_
                    refine l_nil ?_
                    refine then_norm ?_
                    obtain ⟨m58, hm107, H⟩ := H
                    exact ⟨_, rfl, (by repeat (first | exact agree_refl | exact hag86 | exact hag32 | exact hag15 | refine agree_upd rfl ?_ | refine agree_via hag86 rfl ?_ | refine agree_via hag32 rfl ?_ | refine agree_via hag15 rfl ?_)), m58, hm107, _, rfl, H⟩
                · replace H := H.2 hb93
                  have hq94 : Value.bool (decide ((v48 : Int) < ((x16l : Nat) : Int))) = Value.bool false := congrArg Value.bool (decide_eq_false hb93)
                  refine cond_f (ev_tv rfl hq94) ?_
                  refine c_exit ?_
                  refine then_exit ?_
                  refine then_exit ?_
                  refine block_hit ?_
                  refine then_norm ?_
                  exact hK49 _ _ (by repeat (first | exact agree_refl | exact hag86 | exact hag32 | exact hag15 | refine agree_upd rfl ?_ | refine agree_via hag86 rfl ?_ | refine agree_via hag32 rfl ?_ | refine agree_via hag15 rfl ?_)) H
              · clear H
                intro f46 w27 hag47 HJ48
                have H := hJ45  w27 HJ48
                clear hJ45
                refine c_seq ?_
                intro K50 hK50
                refine c_region ?_
                refine L_val (v := .int .i64 0) (y_assign ev_c) ?_
                refine l_nil ?_
                refine then_norm ?_
                refine hK50 _ _ ?_
                clear hK50
                refine c_block ?_
                obtain ⟨I51, ⟨m55, HI56⟩, H⟩ := H
                refine loop_fr ([(4, 4), (11, 11), (90, 110)]) (fun m ff ww => ∃ (v28 : Int), ff 11 = (.int .i64 v28 : Value) ∧ I51 m v28 ww) m55 ⟨0, rfl, HI56⟩ ?_
                rintro m29 f52 w30 hag53 ⟨v28, hs57, HI54⟩
                replace H := H m29 v28 w30 HI54
                refine c_seq ?_
                intro K58 hK58
                refine c_seq ?_
                intro K59 hK59
                refine c_region ?_
                refine L_val (v := .int .i64 v28) (y_move (ev_tv rfl hs57)) ?_
                refine L_val (v := .int .i64 v25) (y_move (ev_tv rfl ((hag53 9 rfl).trans ((hag47 9 rfl).trans hs35)))) ?_
                refine L_val (v := .bool (decide ((v28 : Int) < v25))) (y_lss (ev_tv rfl rfl) (ev_tv rfl rfl)) ?_
                refine l_nil ?_
                refine then_norm ?_
                refine hK59 _ _ ?_
                clear hK59
                rcases (Decidable.em ((v28 : Int) < v25)) with hb60 | hb60
                · replace H := H.1 hb60
                  have hq61 : Value.bool (decide ((v28 : Int) < v25)) = Value.bool true := congrArg Value.bool (decide_eq_true hb60)
                  refine cond_t (ev_tv rfl hq61) ?_
                  refine c_skip ?_
                  refine then_norm ?_
                  refine hK58 _ _ ?_
                  clear hK58
                  refine c_seq ?_
                  intro K62 hK62
                  refine c_block ?_
                  refine c_seq ?_
                  intro K63 hK63
                  refine D_start Try.mixed rfl [] ?_
                  refine start_keep fun hS => ?_
                  refine D_pure (i := 0) (v := .slice x22 x22l x22c) rfl (by kernel_rfl) (W_none rfl) (fun _ => y_move (ev_tv rfl ((hag53 8 rfl).trans ((hag47 8 rfl).trans ((hag32 8 rfl).trans rfl))))) hS ?_
                  intro hS
                  refine D_pure (i := 1) (v := .int .i64 v28) rfl (by kernel_rfl) (W_none rfl) (fun _ => y_move (ev_tv rfl hs57)) hS ?_
                  intro hS
                  obtain ⟨b31, o32, rfl, H⟩ := H
                  obtain ⟨hi64, hi65, H⟩ := H
                  refine D_pure (i := 2) (v := .pointer (some ⟨b31, o32 + (v28 : Int).toNat * 2, none⟩)) rfl (by kernel_rfl) (W_none rfl) (fun _ => y_ix Try.underlying40 Try.type31 rfl (ev_tv rfl rfl) (ev_tv rfl rfl) hi64 hi65) hS ?_
                  intro hS
                  refine D_pure (i := 4) (v := .pointer (some ⟨b7, o8, none⟩)) rfl (by kernel_rfl) (W_none rfl) (fun _ => y_move (ev_tv rfl ((hag53 1 rfl).trans ((hag47 1 rfl).trans ((hag32 1 rfl).trans ((hag15 1 rfl).trans rfl)))))) hS ?_
                  intro hS
                  refine D_pure (i := 5) (v := .pointer (some ⟨b7, o8, none⟩)) rfl (by kernel_rfl) (W_none rfl) (fun _ => y_nilCheck (ev_tv rfl rfl)) hS ?_
                  intro hS
                  refine D_pure (i := 6) (v := .pointer (some ⟨b7, o8 + 1, none⟩)) rfl (by kernel_rfl) (W_none rfl) (fun _ => Try.fa71_1 (ev_tv rfl rfl)) hS ?_
                  intro hS
                  refine D_pure (i := 8) (v := .int .i64 v12) rfl (by kernel_rfl) (W_none rfl) (fun _ => y_move (ev_tv rfl ((hag53 5 rfl).trans ((hag47 5 rfl).trans ((hag32 5 rfl).trans hs19))))) hS ?_
                  intro hS
                  refine D_pure (i := 11) (v := .int .i64 v28) rfl (by kernel_rfl) (W_none rfl) (fun _ => y_move (ev_tv rfl hs57)) hS ?_
                  intro hS
                  obtain ⟨x33, x34, hc66, H⟩ := H
                  refine D_read (i := 3) (v := .agg #[.int .i64 x33, .int .i64 x34]) rfl (by kernel_rfl) (W_none rfl) (fun wx => CellsAt wx ⟨b31, o32 + (v28 : Int).toNat * 2, none⟩ [.int .i64 x33, .int .i64 x34]) hc66 (fun _ hcx => y_loadAgg Try.underlying31 rfl Try.type31 rfl (ev_tv rfl rfl) hcx) hS ?_
                  intro hS
                  obtain ⟨x35, x35l, x35c, hc67, H⟩ := H
                  refine D_read (i := 7) (v := .slice x35 x35l x35c) rfl (by kernel_rfl) (W_none rfl) (fun wx => World.cell? wx ⟨b7, o8 + 1, none⟩ = some (.slice x35 x35l x35c)) hc67 (fun _ hcx => y_load Try.underlying68 rfl (ev_tv rfl rfl) hcx) hS ?_
                  intro hS
                  obtain ⟨b36, o37, rfl, H⟩ := H
                  obtain ⟨hi68, hi69, H⟩ := H
                  refine D_pure (i := 9) (v := .pointer (some ⟨b36, o37 + (v12 : Int).toNat, none⟩)) rfl (by kernel_rfl) (W_none rfl) (fun _ => y_ix1 Try.underlying68 Try.type73 rfl (ev_tv rfl rfl) (ev_tv rfl rfl) hi68 hi69) hS ?_
                  intro hS
                  obtain ⟨x38, x38l, x38c, hc70, H⟩ := H
                  refine D_read (i := 10) (v := .slice x38 x38l x38c) rfl (by kernel_rfl) (W_none rfl) (fun wx => World.cell? wx ⟨b36, o37 + (v12 : Int).toNat, none⟩ = some (.slice x38 x38l x38c)) hc70 (fun _ hcx => y_load Try.underlying73 rfl (ev_tv rfl rfl) hcx) hS ?_
                  intro hS
                  obtain ⟨b39, o40, rfl, H⟩ := H
                  obtain ⟨hi71, hi72, H⟩ := H
                  refine D_pure (i := 12) (v := .pointer (some ⟨b39, o40 + (v28 : Int).toNat * 3, none⟩)) rfl (by kernel_rfl) (W_none rfl) (fun _ => y_ix Try.underlying73 Try.type75 rfl (ev_tv rfl rfl) (ev_tv rfl rfl) hi71 hi72) hS ?_
                  intro hS
                  refine D_pure (i := 13) (v := .pointer (some ⟨b39, o40 + (v28 : Int).toNat * 3, none⟩)) rfl (by kernel_rfl) (W_none rfl) (fun _ => Try.fa75_0 (ev_tv rfl rfl)) hS ?_
                  intro hS
                  obtain ⟨x41, x42, hc73, H⟩ := H
                  refine D_read (i := 14) (v := .agg #[.int .i64 x41, .int .i64 x42]) rfl (by kernel_rfl) (W_none rfl) (fun wx => CellsAt wx ⟨b39, o40 + (v28 : Int).toNat * 3, none⟩ [.int .i64 x41, .int .i64 x42]) hc73 (fun _ hcx => y_loadAgg Try.underlying31 rfl Try.type31 rfl (ev_tv rfl rfl) hcx) hS ?_
                  intro hS
                  obtain ⟨q43, hg75, hc74, H⟩ := H
                  refine D_pure (i := 15) (v := .bool q43) rfl (by kernel_rfl) (W_none rfl) (fun _ => y_nev (ev_tv rfl rfl) (ev_tv rfl rfl) (hg75 _) (hc74 _)) hS ?_
                  intro hS
                  refine D_done (by kernel_rfl) ?_
                  refine then_norm ?_
                  refine hK63 _ _ ?_
                  clear hK63
                  rcases Bool.eq_false_or_eq_true q43 with hb76 | hb76
                  · replace H := H.1 hb76
                    have hq77 : Value.bool (q43) = Value.bool true := congrArg Value.bool hb76
                    refine cond_t (ev_tv rfl hq77) ?_
                    refine c_seq ?_
                    intro K78 hK78
                    refine c_region ?_
                    refine L_val (v := .bool false) (y_assign ev_c) ?_
                    refine l_nil ?_
                    refine then_norm ?_
                    refine hK78 _ _ ?_
                    clear hK78
                    refine c_ret ?_
                    refine block_ret ?_
                    refine then_ret ?_
                    refine then_ret ?_
                    refine block_ret ?_
                    refine block_ret ?_
                    refine then_ret ?_
                    refine then_ret ?_
                    refine block_ret ?_
                    refine then_ret ?_
                    exact body_1 rfl (ev_tv rfl rfl) H
                  · replace H := H.2 hb76
                    have hq77 : Value.bool (q43) = Value.bool false := congrArg Value.bool hb76
                    refine cond_f (ev_tv rfl hq77) ?_
                    refine c_skip ?_
                    refine block_norm ?_
                    refine then_norm ?_
                    refine hK62 _ _ ?_
                    clear hK62
                    refine c_region ?_
                    refine L_val (v := .int .i64 v28) (y_move (ev_tv rfl hs57)) ?_
                    obtain ⟨r44, hr79⟩ : ∃ r44 : Int, r44 = IntKind.wrap .i64 (v28 + 1) := ⟨_, rfl⟩
                    replace H := H r44 hr79
                    refine L_val (v := .int .i64 r44) (y_add (ev_tv rfl rfl) ev_c hr79) ?_
                    refine L_val (v := .int .i64 r44) (y_assign (ev_tv rfl rfl)) ?_
                    refine l_nil ?_
                    refine then_norm ?_
                    obtain ⟨m45, hm80, H⟩ := H
                    exact ⟨_, rfl, (by repeat (first | exact agree_refl | exact hag53 | exact hag47 | exact hag32 | exact hag15 | refine agree_upd rfl ?_ | refine agree_via hag53 rfl ?_ | refine agree_via hag47 rfl ?_ | refine agree_via hag32 rfl ?_ | refine agree_via hag15 rfl ?_)), m45, hm80, _, rfl, H⟩
                · replace H := H.2 hb60
                  have hq61 : Value.bool (decide ((v28 : Int) < v25)) = Value.bool false := congrArg Value.bool (decide_eq_false hb60)
                  refine cond_f (ev_tv rfl hq61) ?_
                  refine c_exit ?_
                  refine then_exit ?_
                  refine then_exit ?_
                  refine block_hit ?_
                  refine block_norm ?_
                  refine then_norm ?_
                  refine hK25 _ _ ?_
                  clear hK25
                  refine c_region ?_
                  refine L_val (v := .int .i64 v12) (y_move (ev_tv rfl ((hag53 5 rfl).trans ((hag47 5 rfl).trans ((hag32 5 rfl).trans hs19))))) ?_
                  obtain ⟨r46, hr81⟩ : ∃ r46 : Int, r46 = IntKind.wrap .i64 (v12 + 1) := ⟨_, rfl⟩
                  replace H := H r46 hr81
                  refine L_val (v := .int .i64 r46) (y_add (ev_tv rfl rfl) ev_c hr81) ?_
                  refine L_val (v := .int .i64 r46) (y_assign (ev_tv rfl rfl)) ?_
                  refine l_nil ?_
                  refine then_norm ?_
                  obtain ⟨m47, hm82, H⟩ := H
                  exact ⟨_, rfl, (by repeat (first | exact agree_refl | exact hag53 | exact hag47 | exact hag32 | exact hag15 | refine agree_upd rfl ?_ | refine agree_via hag53 rfl ?_ | refine agree_via hag47 rfl ?_ | refine agree_via hag32 rfl ?_ | refine agree_via hag15 rfl ?_)), m47, hm82, _, rfl, H⟩
      · replace H := H.2 hb23
        have hq24 : Value.bool (decide ((v12 : Int) ≤ ((x15l : Nat) : Int))) = Value.bool false := congrArg Value.bool (decide_eq_false hb23)
        refine cond_f (ev_tv rfl hq24) ?_
        refine c_exit ?_
        refine then_exit ?_
        refine then_exit ?_
        refine block_hit ?_
        refine then_norm ?_
        refine hK11 _ _ ?_
        clear hK11
        refine c_seq ?_
        intro K124 hK124
        refine c_region ?_
        refine L_val (v := .bool true) (y_assign ev_c) ?_
        refine l_nil ?_
        refine then_norm ?_
        refine hK124 _ _ ?_
        clear hK124
        refine c_ret ?_
        exact body_1 rfl (ev_tv rfl rfl) H

/-- (parapet/tlb.Tlb).is -/
def Vc20 (a_t1 : Option Addr) (a_h2 : Int) (w : World) (R : Ending → World → Prop) : Prop :=
  ((((0 : Int) ≤ a_h2) → (Calls Try.prog 33 #[.pointer a_t1] w fun e w4 => ∃ x3 : Int, e = .returned (.int .i64 x3) ∧ R (.returned (.bool (decide ((a_h2 : Int) < x3)))) w4)) ∧ ((¬ ((0 : Int) ≤ a_h2)) → R (.returned (.bool false)) w))

theorem vc20 {a_t1 : Option Addr} {a_h2 : Int} {w : World} {R : Ending → World → Prop} (H : Vc20 a_t1 a_h2 w R) : Calls Try.prog 20 #[.pointer a_t1, .int .i64 a_h2] w R := by
  unfold Vc20 at H
  refine calls_start [.pointer a_t1, .int .i64 a_h2] Try.func20 rfl Try.ntmps20 rfl ?_
  refine c_seq ?_
  intro K1 hK1
  refine c_region ?_
  refine L_val (v := .bool false) (y_assign ev_c) ?_
  refine l_nil ?_
  refine then_norm ?_
  refine hK1 _ _ ?_
  clear hK1
  refine c_seq ?_
  intro K2 hK2
  refine c_region ?_
  refine L_val (v := .int .i64 a_h2) (y_move (ev_tv rfl rfl)) ?_
  refine L_val (v := .bool (decide ((0 : Int) ≤ a_h2))) (y_geq (ev_tv rfl rfl) ev_c) ?_
  refine L_val (v := .bool (decide ((0 : Int) ≤ a_h2))) (y_move (ev_tv rfl rfl)) ?_
  rcases (Decidable.em ((0 : Int) ≤ a_h2)) with hb3 | hb3
  · replace H := H.1 hb3
    have hq4 : Value.bool (decide ((0 : Int) ≤ a_h2)) = Value.bool true := congrArg Value.bool (decide_eq_true hb3)
    refine G_val (dj := 7) rfl rfl hq4 (v := .int .i64 a_h2) (y_move (ev_tv rfl rfl)) ?_
    refine G_val (dj := 7) rfl rfl hq4 (v := .pointer a_t1) (y_move (ev_tv rfl rfl)) ?_
    refine G_call (dj := 7) rfl rfl hq4 (y_call Try.call33 (map_ev1 (ev_tv rfl rfl)) ev_f) (Calls.mono H ?_)
    clear H
    rintro _ w4 ⟨x3, rfl, H⟩
    refine ⟨_, rfl, ?_⟩
    refine G_val (dj := 7) rfl rfl hq4 (v := .bool (decide ((a_h2 : Int) < x3))) (y_lss (ev_tv rfl rfl) (ev_tv rfl rfl)) ?_
    refine L_val (v := .bool (decide ((a_h2 : Int) < x3))) (y_pick_t (ev_tv rfl hq4) (ev_tv rfl rfl)) ?_
    refine L_val (v := .bool (decide ((a_h2 : Int) < x3))) (y_assign (ev_tv rfl rfl)) ?_
    refine l_nil ?_
    refine then_norm ?_
    refine hK2 _ _ ?_
    clear hK2
    refine c_ret ?_
    exact body_1 rfl (ev_tv rfl rfl) H
  · replace H := H.2 hb3
    have hq4 : Value.bool (decide ((0 : Int) ≤ a_h2)) = Value.bool false := congrArg Value.bool (decide_eq_false hb3)
    refine G_not (b' := false) (dj := 7) rfl rfl hq4 rfl ?_
    refine G_not (b' := false) (dj := 7) rfl rfl hq4 rfl ?_
    refine G_not (b' := false) (dj := 7) rfl rfl hq4 rfl ?_
    refine G_not (b' := false) (dj := 7) rfl rfl hq4 rfl ?_
    refine L_val (v := .bool false) (y_pick_f (ev_tv rfl hq4) ev_c) ?_
    refine L_val (v := .bool false) (y_assign (ev_tv rfl rfl)) ?_
    refine l_nil ?_
    refine then_norm ?_
    refine hK2 _ _ ?_
    clear hK2
    refine c_ret ?_
    exact body_1 rfl (ev_tv rfl rfl) H

/-- slices.Delete[[]parapet/api.Key,parapet/api.Key] -/
def Vc21 (a_s1 : Option Addr) (a_s1l : Nat) (a_s1c : Nat) (a_i2 : Int) (a_j3 : Int) (w : World) (R : Ending → World → Prop) : Prop :=
  ((0 : Int) ≤ a_i2 ∧ (a_i2 : Int) ≤ a_j3 ∧ (a_j3 : Int) ≤ ((a_s1l : Nat) : Int) ∧ ((a_s1l : Nat) : Int) ≤ ((a_s1c : Nat) : Int) ∧ ∀ a4 : Option Addr, a4 = subA a_s1 2 (((a_s1l : Nat) : Int) : Int).toNat (a_i2 : Int).toNat → ((((a_i2 : Int) = a_j3) → R (.returned (.slice a_s1 a_s1l a_s1c)) w) ∧ ((¬ ((a_i2 : Int) = a_j3)) → ((0 : Int) ≤ a_i2 ∧ a_i2 ≤ ((a_s1c : Nat) : Int) ∧ ∀ a5 : Option Addr, a5 = a_s1 → ((0 : Int) ≤ a_j3 ∧ a_j3 ≤ ((a_s1l : Nat) : Int) ∧ ∀ a6 : Option Addr, a6 = subA a_s1 2 a_s1c (a_j3 : Int).toNat → (∃ x8 : Option Addr, ∃ x8l : Nat, ∃ x8c : Nat, ∃ w7 : World, (Builtin.append_ #[40, 40] 40 #[.slice a5 ((a_i2 : Int).toNat) a_s1c, .slice a6 (a_s1l - (a_j3 : Int).toNat) (a_s1c - (a_j3 : Int).toNat)]).run Try.prog (w.drew) = .ok (.slice x8 x8l x8c) w7 ∧ ((0 : Int) ≤ ((x8l : Nat) : Int) ∧ (((x8l : Nat) : Int) : Int) ≤ ((a_s1l : Nat) : Int) ∧ ((a_s1l : Nat) : Int) ≤ ((x8c : Nat) : Int) ∧ ∀ a9 : Option Addr, a9 = subA x8 2 x8c (((x8l : Nat) : Int) : Int).toNat → (∃ w10 : World, (Builtin.clear_ #[40] 0 #[.slice a9 ((((a_s1l : Nat) : Int) : Int).toNat - (((x8l : Nat) : Int) : Int).toNat) (x8c - (((x8l : Nat) : Int) : Int).toNat)]).run Try.prog w7 = .ok (.tuple #[]) w10 ∧ R (.returned (.slice x8 x8l x8c)) w10))))))))

theorem vc21 {a_s1 : Option Addr} {a_s1l : Nat} {a_s1c : Nat} {a_i2 : Int} {a_j3 : Int} {w : World} {R : Ending → World → Prop} (H : Vc21 a_s1 a_s1l a_s1c a_i2 a_j3 w R) : Calls Try.prog 21 #[.slice a_s1 a_s1l a_s1c, .int .i64 a_i2, .int .i64 a_j3] w R := by
  unfold Vc21 at H
  refine calls_start [.slice a_s1 a_s1l a_s1c, .int .i64 a_i2, .int .i64 a_j3] Try.func21 rfl Try.ntmps21 rfl ?_
  refine c_seq ?_
  intro K1 hK1
  refine c_region ?_
  refine L_val (v := .slice none 0 0) (y_assign ev_c) ?_
  refine l_nil ?_
  refine then_norm ?_
  refine hK1 _ _ ?_
  clear hK1
  refine c_seq ?_
  intro K2 hK2
  refine c_region ?_
  refine L_val (v := .slice a_s1 a_s1l a_s1c) (y_move (ev_tv rfl rfl)) ?_
  refine L_val (v := .int .i64 a_i2) (y_move (ev_tv rfl rfl)) ?_
  refine L_val (v := .int .i64 a_j3) (y_move (ev_tv rfl rfl)) ?_
  refine L_val (v := .slice a_s1 a_s1l a_s1c) (y_move (ev_tv rfl rfl)) ?_
  refine L_val (v := .int .i64 ((a_s1l : Nat) : Int)) (y_len Try.underlying40 rfl (map_ev1 (ev_tv rfl rfl))) ?_
  obtain ⟨hi4, hi5, hi6, hi7, H⟩ := H
  obtain ⟨a4, ha3⟩ : ∃ a4 : Option Addr, a4 = subA a_s1 2 (((a_s1l : Nat) : Int) : Int).toNat (a_i2 : Int).toNat := ⟨_, rfl⟩
  replace H := H a4 ha3
  refine L_val (v := .slice a4 ((a_j3 : Int).toNat - (a_i2 : Int).toNat) ((((a_s1l : Nat) : Int) : Int).toNat - (a_i2 : Int).toNat)) (y_sliceLHM Try.underlying40 Try.type31 rfl (ev_tv rfl rfl) (ev_tv rfl rfl) (ev_tv rfl rfl) (ev_tv rfl rfl) hi4 hi5 hi6 hi7 ha3) ?_
  refine l_nil ?_
  refine then_norm ?_
  refine hK2 _ _ ?_
  clear hK2
  refine c_seq ?_
  intro K8 hK8
  refine c_seq ?_
  intro K9 hK9
  refine c_region ?_
  refine L_val (v := .int .i64 a_i2) (y_move (ev_tv rfl rfl)) ?_
  refine L_val (v := .int .i64 a_j3) (y_move (ev_tv rfl rfl)) ?_
  refine L_val (v := .bool (decide ((a_i2 : Int) = a_j3))) (y_ieq (ev_tv rfl rfl) (ev_tv rfl rfl)) ?_
  refine l_nil ?_
  refine then_norm ?_
  refine hK9 _ _ ?_
  clear hK9
  rcases (Decidable.em ((a_i2 : Int) = a_j3)) with hb10 | hb10
  · replace H := H.1 hb10
    have hq11 : Value.bool (decide ((a_i2 : Int) = a_j3)) = Value.bool true := congrArg Value.bool (decide_eq_true hb10)
    refine cond_t (ev_tv rfl hq11) ?_
    refine c_seq ?_
    intro K12 hK12
    refine c_region ?_
    refine L_val (v := .slice a_s1 a_s1l a_s1c) (y_move (ev_tv rfl rfl)) ?_
    refine L_val (v := .slice a_s1 a_s1l a_s1c) (y_assign (ev_tv rfl rfl)) ?_
    refine l_nil ?_
    refine then_norm ?_
    refine hK12 _ _ ?_
    clear hK12
    refine c_ret ?_
    refine then_ret ?_
    exact body_1 rfl (ev_tv rfl rfl) H
  · replace H := H.2 hb10
    have hq11 : Value.bool (decide ((a_i2 : Int) = a_j3)) = Value.bool false := congrArg Value.bool (decide_eq_false hb10)
    refine cond_f (ev_tv rfl hq11) ?_
    refine c_skip ?_
    refine then_norm ?_
    refine hK8 _ _ ?_
    clear hK8
    refine c_seq ?_
    intro K13 hK13
    refine c_region ?_
    refine L_val (v := .slice a_s1 a_s1l a_s1c) (y_move (ev_tv rfl rfl)) ?_
    refine L_val (v := .int .i64 ((a_s1l : Nat) : Int)) (y_len Try.underlying40 rfl (map_ev1 (ev_tv rfl rfl))) ?_
    refine L_val (v := .int .i64 ((a_s1l : Nat) : Int)) (y_assign (ev_tv rfl rfl)) ?_
    refine l_nil ?_
    refine then_norm ?_
    refine hK13 _ _ ?_
    clear hK13
    refine c_seq ?_
    intro K14 hK14
    refine D_start Try.mixed rfl [6] ?_
    refine start_keep fun hS => ?_
    refine D_pure (i := 0) (v := .slice a_s1 a_s1l a_s1c) rfl (by kernel_rfl) (W_none rfl) (fun _ => y_move (ev_tv rfl rfl)) hS ?_
    intro hS
    refine D_pure (i := 1) (v := .int .i64 a_i2) rfl (by kernel_rfl) (W_none rfl) (fun _ => y_move (ev_tv rfl rfl)) hS ?_
    intro hS
    obtain ⟨hi16, hi17, H⟩ := H
    obtain ⟨a5, ha15⟩ : ∃ a5 : Option Addr, a5 = a_s1 := ⟨_, rfl⟩
    replace H := H a5 ha15
    refine D_pure (i := 2) (v := .slice a5 ((a_i2 : Int).toNat) a_s1c) rfl (by kernel_rfl) (W_none rfl) (fun _ => y_sliceH Try.underlying40 Try.type31 (ev_tv rfl rfl) (ev_tv rfl rfl) hi16 hi17 ha15) hS ?_
    intro hS
    refine D_pure (i := 3) (v := .slice a_s1 a_s1l a_s1c) rfl (by kernel_rfl) (W_none rfl) (fun _ => y_move (ev_tv rfl rfl)) hS ?_
    intro hS
    refine D_pure (i := 4) (v := .int .i64 a_j3) rfl (by kernel_rfl) (W_none rfl) (fun _ => y_move (ev_tv rfl rfl)) hS ?_
    intro hS
    obtain ⟨hi19, hi20, H⟩ := H
    obtain ⟨a6, ha18⟩ : ∃ a6 : Option Addr, a6 = subA a_s1 2 a_s1c (a_j3 : Int).toNat := ⟨_, rfl⟩
    replace H := H a6 ha18
    refine D_pure (i := 5) (v := .slice a6 (a_s1l - (a_j3 : Int).toNat) (a_s1c - (a_j3 : Int).toNat)) rfl (by kernel_rfl) (W_none rfl) (fun _ => y_sliceL Try.underlying40 Try.type31 rfl (ev_tv rfl rfl) (ev_tv rfl rfl) hi19 hi20 ha18) hS ?_
    intro hS
    refine D_only (i := 6) (by kernel_rfl) rfl ?_
    obtain ⟨x8, x8l, x8c, w7, hc21, H⟩ := H
    refine O_val (i := 6) (v := .slice x8 x8l x8c) rfl (W_none rfl) (y_bi_append (map_ev2 (ev_tv rfl rfl) (ev_tv rfl rfl)) hc21) ?_
    refine and_keep SS_nil fun hS => ?_
    refine D_pure (i := 7) (v := .slice x8 x8l x8c) rfl (by kernel_rfl) (W_none rfl) (fun _ => y_assign (ev_tv rfl rfl)) hS ?_
    intro hS
    refine D_done (by kernel_rfl) ?_
    refine then_norm ?_
    refine hK14 _ _ ?_
    clear hK14
    refine c_seq ?_
    intro K22 hK22
    refine c_region ?_
    refine L_val (v := .slice x8 x8l x8c) (y_move (ev_tv rfl rfl)) ?_
    refine L_val (v := .slice x8 x8l x8c) (y_move (ev_tv rfl rfl)) ?_
    refine L_val (v := .int .i64 ((x8l : Nat) : Int)) (y_len Try.underlying40 rfl (map_ev1 (ev_tv rfl rfl))) ?_
    refine L_val (v := .int .i64 ((a_s1l : Nat) : Int)) (y_move (ev_tv rfl rfl)) ?_
    obtain ⟨hi24, hi25, hi26, H⟩ := H
    obtain ⟨a9, ha23⟩ : ∃ a9 : Option Addr, a9 = subA x8 2 x8c (((x8l : Nat) : Int) : Int).toNat := ⟨_, rfl⟩
    replace H := H a9 ha23
    refine L_val (v := .slice a9 ((((a_s1l : Nat) : Int) : Int).toNat - (((x8l : Nat) : Int) : Int).toNat) (x8c - (((x8l : Nat) : Int) : Int).toNat)) (y_sliceLH Try.underlying40 Try.type31 rfl (ev_tv rfl rfl) (ev_tv rfl rfl) (ev_tv rfl rfl) hi24 hi25 hi26 ha23) ?_
    obtain ⟨w10, hc27, H⟩ := H
    refine L_valn (v := .tuple #[]) (y_bi_clear (map_ev1 (ev_tv rfl rfl)) hc27) ?_
    refine l_nil ?_
    refine then_norm ?_
    refine hK22 _ _ ?_
    clear hK22
    refine c_seq ?_
    intro K28 hK28
    refine c_region ?_
    refine L_val (v := .slice x8 x8l x8c) (y_move (ev_tv rfl rfl)) ?_
    refine L_val (v := .slice x8 x8l x8c) (y_assign (ev_tv rfl rfl)) ?_
    refine l_nil ?_
    refine then_norm ?_
    refine hK28 _ _ ?_
    clear hK28
    refine c_ret ?_
    exact body_1 rfl (ev_tv rfl rfl) H

/-- (parapet/tlb.hart).forget -/
def Vc23 (a_h1 : Option Addr) (a_space2 : Int) (w : World) (R : Ending → World → Prop) : Prop :=
  (∀ (b3 : Nat) (w4 : World), b3 = World.heapSize w → w4 = World.alloc w (.cells #[.int .i64 a_space2] 3) → (∃ (b5 o6 : Nat), a_h1 = some ⟨b5, o6, none⟩ ∧ (∃ x7 : Option Addr, ∃ x7l : Nat, ∃ x7c : Nat, World.cell? w4 ⟨b5, o6 + 1, none⟩ = some (.slice x7 x7l x7c) ∧ (∃ x8 : Option Addr, ∃ x8l : Nat, ∃ x8c : Nat, World.cell? w4 ⟨b5, o6 + 1, none⟩ = some (.slice x8 x8l x8c) ∧ (Calls Try.prog 37 #[.slice x8 x8l x8c, .func (.func 38) #[] #[.pointer (some ⟨b3, 0, none⟩)]] w4 fun e w10 => ∃ x9 : Option Addr, ∃ x9l : Nat, ∃ x9c : Nat, e = .returned (.slice x9 x9l x9c) ∧ ((World.cell? w10 ⟨b5, o6 + 1, none⟩).isSome = true ∧ World.frozen? w10 ⟨b5, o6 + 1, none⟩ = false ∧ ∀ w12 : World, w12 = World.setCell w10 ⟨b5, o6 + 1, none⟩ (.slice x9 x9l x9c) → (∃ x13 : Option Nat, World.cell? w12 ⟨b5, o6, none⟩ = some (.map x13) ∧ (Calls Try.prog 39 #[.map x13, .func (.func 40) #[] #[.pointer (some ⟨b3, 0, none⟩)]] w12 fun e w14 => e = .returned (.tuple #[]) ∧ (∃ x16 : Option Addr, ∃ x16l : Nat, ∃ x16c : Nat, World.cell? w14 ⟨b5, o6 + 1, none⟩ = some (.slice x16 x16l x16c) ∧ (∀ r17 : Int, r17 = IntKind.wrap .i64 (((x7l : Nat) : Int) - ((x16l : Nat) : Int)) → R (.returned (.int .i64 r17)) w14))))))))))

theorem vc23 {a_h1 : Option Addr} {a_space2 : Int} {w : World} {R : Ending → World → Prop} (H : Vc23 a_h1 a_space2 w R) : Calls Try.prog 23 #[.pointer a_h1, .int .i64 a_space2] w R := by
  unfold Vc23 at H
  refine calls_start [.pointer a_h1, .int .i64 a_space2] Try.func23 rfl Try.ntmps23 rfl ?_
  refine c_seq ?_
  intro K1 hK1
  refine c_region ?_
  obtain ⟨b3, hb2⟩ : ∃ b3 : Nat, b3 = World.heapSize w := ⟨_, rfl⟩
  obtain ⟨w4, hw3⟩ : ∃ w4 : World, w4 = World.alloc w (.cells #[.int .i64 a_space2] 3) := ⟨_, rfl⟩
  replace H := H b3 w4 hb2 hw3
  refine L_val (v := .pointer (some ⟨b3, 0, none⟩)) (y_box (ev_tv rfl rfl) rfl hb2 hw3) ?_
  refine L_val (v := .int .i64 0) (y_assign ev_c) ?_
  refine l_nil ?_
  refine then_norm ?_
  refine hK1 _ _ ?_
  clear hK1
  refine c_seq ?_
  intro K4 hK4
  refine c_region ?_
  refine L_val (v := .pointer a_h1) (y_move (ev_tv rfl rfl)) ?_
  obtain ⟨b5, o6, rfl, H⟩ := H
  refine L_val (v := .pointer (some ⟨b5, o6, none⟩)) (y_nilCheck (ev_tv rfl rfl)) ?_
  refine L_val (v := .pointer (some ⟨b5, o6 + 1, none⟩)) (Try.fa59_1 (ev_tv rfl rfl)) ?_
  obtain ⟨x7, x7l, x7c, hc5, H⟩ := H
  refine L_val (v := .slice x7 x7l x7c) (y_load Try.underlying40 rfl (ev_tv rfl rfl) hc5) ?_
  refine L_val (v := .int .i64 ((x7l : Nat) : Int)) (y_len Try.underlying40 rfl (map_ev1 (ev_tv rfl rfl))) ?_
  refine L_val (v := .int .i64 ((x7l : Nat) : Int)) (y_assign (ev_tv rfl rfl)) ?_
  refine l_nil ?_
  refine then_norm ?_
  refine hK4 _ _ ?_
  clear hK4
  refine c_seq ?_
  intro K6 hK6
  refine c_region ?_
  refine L_val (v := .pointer (some ⟨b5, o6, none⟩)) (y_move (ev_tv rfl rfl)) ?_
  refine L_val (v := .pointer (some ⟨b5, o6, none⟩)) (y_move (ev_tv rfl rfl)) ?_
  refine L_val (v := .pointer (some ⟨b5, o6, none⟩)) (y_nilCheck (ev_tv rfl rfl)) ?_
  refine L_val (v := .pointer (some ⟨b5, o6 + 1, none⟩)) (Try.fa59_1 (ev_tv rfl rfl)) ?_
  obtain ⟨x8, x8l, x8c, hc7, H⟩ := H
  refine L_val (v := .slice x8 x8l x8c) (y_load Try.underlying40 rfl (ev_tv rfl rfl) hc7) ?_
  refine L_val (v := .func (.func 38) #[] #[.pointer (some ⟨b3, 0, none⟩)]) (y_makeFunc map_ev0 (map_ev1 (ev_tv rfl rfl))) ?_
  refine L_call (y_call Try.call37 (map_ev2 (ev_tv rfl rfl) (ev_tv rfl rfl)) ev_f) (Calls.mono H ?_)
  clear H
  rintro _ w10 ⟨x9, x9l, x9c, rfl, H⟩
  refine ⟨_, rfl, ?_⟩
  refine L_val (v := .pointer (some ⟨b5, o6, none⟩)) (y_nilCheck (ev_tv rfl rfl)) ?_
  refine L_val (v := .pointer (some ⟨b5, o6 + 1, none⟩)) (Try.fa59_1 (ev_tv rfl rfl)) ?_
  obtain ⟨hc8, hf9, H⟩ := H
  obtain ⟨w12, hw10⟩ : ∃ w12 : World, w12 = World.setCell w10 ⟨b5, o6 + 1, none⟩ (.slice x9 x9l x9c) := ⟨_, rfl⟩
  replace H := H w12 hw10
  refine L_skip (y_store Try.type40 rfl rfl (ev_tv rfl rfl) (ev_tv rfl rfl) hc8 hf9 hw10) ?_
  refine l_nil ?_
  refine then_norm ?_
  refine hK6 _ _ ?_
  clear hK6
  refine c_seq ?_
  intro K11 hK11
  refine c_region ?_
  refine L_val (v := .pointer (some ⟨b5, o6, none⟩)) (y_move (ev_tv rfl rfl)) ?_
  refine L_val (v := .pointer (some ⟨b5, o6, none⟩)) (y_nilCheck (ev_tv rfl rfl)) ?_
  refine L_val (v := .pointer (some ⟨b5, o6, none⟩)) (Try.fa59_0 (ev_tv rfl rfl)) ?_
  obtain ⟨x13, hc12, H⟩ := H
  refine L_val (v := .map x13) (y_load Try.underlying57 rfl (ev_tv rfl rfl) hc12) ?_
  refine L_val (v := .func (.func 40) #[] #[.pointer (some ⟨b3, 0, none⟩)]) (y_makeFunc map_ev0 (map_ev1 (ev_tv rfl rfl))) ?_
  refine L_call (y_call Try.call39 (map_ev2 (ev_tv rfl rfl) (ev_tv rfl rfl)) ev_f) (Calls.mono H ?_)
  clear H
  rintro _ w14 ⟨rfl, H⟩
  refine ⟨_, rfl, ?_⟩
  refine l_nil ?_
  refine then_norm ?_
  refine hK11 _ _ ?_
  clear hK11
  refine c_seq ?_
  intro K13 hK13
  refine c_region ?_
  refine L_val (v := .int .i64 ((x7l : Nat) : Int)) (y_move (ev_tv rfl rfl)) ?_
  refine L_val (v := .pointer (some ⟨b5, o6, none⟩)) (y_move (ev_tv rfl rfl)) ?_
  refine L_val (v := .pointer (some ⟨b5, o6, none⟩)) (y_nilCheck (ev_tv rfl rfl)) ?_
  refine L_val (v := .pointer (some ⟨b5, o6 + 1, none⟩)) (Try.fa59_1 (ev_tv rfl rfl)) ?_
  obtain ⟨x16, x16l, x16c, hc14, H⟩ := H
  refine L_val (v := .slice x16 x16l x16c) (y_load Try.underlying40 rfl (ev_tv rfl rfl) hc14) ?_
  refine L_val (v := .int .i64 ((x16l : Nat) : Int)) (y_len Try.underlying40 rfl (map_ev1 (ev_tv rfl rfl))) ?_
  obtain ⟨r17, hr15⟩ : ∃ r17 : Int, r17 = IntKind.wrap .i64 (((x7l : Nat) : Int) - ((x16l : Nat) : Int)) := ⟨_, rfl⟩
  replace H := H r17 hr15
  refine L_val (v := .int .i64 r17) (y_sub (ev_tv rfl rfl) (ev_tv rfl rfl) hr15) ?_
  refine L_val (v := .int .i64 r17) (y_assign (ev_tv rfl rfl)) ?_
  refine l_nil ?_
  refine then_norm ?_
  refine hK13 _ _ ?_
  clear hK13
  refine c_ret ?_
  exact body_1 rfl (ev_tv rfl rfl) H

/-- slices.Clone[[]parapet/api.Key,parapet/api.Key] -/
def Vc24 (a_s1 : Option Addr) (a_s1l : Nat) (a_s1c : Nat) (w : World) (R : Ending → World → Prop) : Prop :=
  (((a_s1 = none) → R (.returned (.slice none 0 0)) w) ∧ ((a_s1 ≠ none) → (∀ (b2 : Nat) (w3 : World), b2 = World.heapSize w → w3 = World.alloc w (.cells #[] 31) → (∃ x5 : Option Addr, ∃ x5l : Nat, ∃ x5c : Nat, ∃ w4 : World, (Builtin.append_ #[40, 40] 40 #[.slice (some ⟨b2, 0, none⟩) 0 0, .slice a_s1 a_s1l a_s1c]).run Try.prog w3 = .ok (.slice x5 x5l x5c) w4 ∧ R (.returned (.slice x5 x5l x5c)) w4))))

theorem vc24 {a_s1 : Option Addr} {a_s1l : Nat} {a_s1c : Nat} {w : World} {R : Ending → World → Prop} (H : Vc24 a_s1 a_s1l a_s1c w R) : Calls Try.prog 24 #[.slice a_s1 a_s1l a_s1c] w R := by
  unfold Vc24 at H
  refine calls_start [.slice a_s1 a_s1l a_s1c] Try.func24 rfl Try.ntmps24 rfl ?_
  refine c_seq ?_
  intro K1 hK1
  refine c_region ?_
  refine L_val (v := .slice none 0 0) (y_assign ev_c) ?_
  refine l_nil ?_
  refine then_norm ?_
  refine hK1 _ _ ?_
  clear hK1
  refine c_seq ?_
  intro K2 hK2
  refine c_seq ?_
  intro K3 hK3
  refine c_region ?_
  refine L_val (v := .slice a_s1 a_s1l a_s1c) (y_move (ev_tv rfl rfl)) ?_
  refine L_val (v := .bool (a_s1.isNone)) (y_sleq Try.underlying40 (ev_tv rfl rfl) ev_c) ?_
  refine l_nil ?_
  refine then_norm ?_
  refine hK3 _ _ ?_
  clear hK3
  rcases (Classical.em (a_s1 = none)) with hb4 | hb4
  · replace H := H.1 hb4
    have hq5 : Value.bool (a_s1.isNone) = Value.bool true := congrArg Value.bool (isn_t hb4)
    refine cond_t (ev_tv rfl hq5) ?_
    refine c_seq ?_
    intro K6 hK6
    refine c_region ?_
    refine L_val (v := .slice none 0 0) (y_assign ev_c) ?_
    refine l_nil ?_
    refine then_norm ?_
    refine hK6 _ _ ?_
    clear hK6
    refine c_ret ?_
    refine then_ret ?_
    exact body_1 rfl (ev_tv rfl rfl) H
  · replace H := H.2 hb4
    have hq5 : Value.bool (a_s1.isNone) = Value.bool false := congrArg Value.bool (isn_f hb4)
    refine cond_f (ev_tv rfl hq5) ?_
    refine c_skip ?_
    refine then_norm ?_
    refine hK2 _ _ ?_
    clear hK2
    refine c_seq ?_
    intro K7 hK7
    refine c_region ?_
    obtain ⟨b2, hb8⟩ : ∃ b2 : Nat, b2 = World.heapSize w := ⟨_, rfl⟩
    obtain ⟨w3, hw9⟩ : ∃ w3 : World, w3 = World.alloc w (.cells #[] 31) := ⟨_, rfl⟩
    replace H := H b2 w3 hb8 hw9
    refine L_val (v := .slice (some ⟨b2, 0, none⟩) 0 0) (y_buildSlice rfl hb8 hw9 (by kernel_rfl)) ?_
    refine L_val (v := .slice a_s1 a_s1l a_s1c) (y_move (ev_tv rfl rfl)) ?_
    obtain ⟨x5, x5l, x5c, w4, hc10, H⟩ := H
    refine L_val (v := .slice x5 x5l x5c) (y_bi_append (map_ev2 (ev_tv rfl rfl) (ev_tv rfl rfl)) hc10) ?_
    refine L_val (v := .slice x5 x5l x5c) (y_assign (ev_tv rfl rfl)) ?_
    refine l_nil ?_
    refine then_norm ?_
    refine hK7 _ _ ?_
    clear hK7
    refine c_ret ?_
    exact body_1 rfl (ev_tv rfl rfl) H

/-- (parapet/parapetref07.Tlb).Look -/
def Vc25 (a_t1 : Option Addr) (a_h2 : Int) (a_k3 : Int) (a_k4 : Int) (w : World) (R : Ending → World → Prop) : Prop :=
  (∀ (b5 : Nat) (w6 : World), b5 = World.heapSize w → w6 = World.alloc w (.cells #[.int .i64 a_k3, .int .i64 a_k4] 31) → (Calls Try.prog 41 #[.pointer a_t1, .int .i64 a_h2] w6 fun e w8 => ∃ x7 : Bool, e = .returned (.bool x7) ∧ (((x7 = true) → (∃ I10 : Nat → Int → World → Prop, (∃ m, I10 m 0 w8) ∧ ∀ (m11 : Nat) (v10 : Int) (w12 : World), I10 m11 v10 w12 → (∃ (b13 o14 : Nat), a_t1 = some ⟨b13, o14, none⟩ ∧ (∃ x15 : Option Addr, ∃ x15l : Nat, ∃ x15c : Nat, World.cell? w12 ⟨b13, o14 + 1, none⟩ = some (.slice x15 x15l x15c) ∧ (∃ (b16 o17 : Nat), x15 = some ⟨b16, o17, none⟩ ∧ ((0 : Int) ≤ a_h2 ∧ a_h2 < ((x15l : Nat) : Int) ∧ (∃ x18 : Option Addr, ∃ x18l : Nat, ∃ x18c : Nat, World.cell? w12 ⟨b16, o17 + (a_h2 : Int).toNat, none⟩ = some (.slice x18 x18l x18c) ∧ ((((v10 : Int) < ((x18l : Nat) : Int)) → (∃ x19 : Option Addr, ∃ x19l : Nat, ∃ x19c : Nat, World.cell? (w12.drew) ⟨b13, o14 + 1, none⟩ = some (.slice x19 x19l x19c) ∧ (∃ (b20 o21 : Nat), x19 = some ⟨b20, o21, none⟩ ∧ ((0 : Int) ≤ a_h2 ∧ a_h2 < ((x19l : Nat) : Int) ∧ (∃ x22 : Option Addr, ∃ x22l : Nat, ∃ x22c : Nat, World.cell? (w12.drew) ⟨b20, o21 + (a_h2 : Int).toNat, none⟩ = some (.slice x22 x22l x22c) ∧ (∃ (b23 o24 : Nat), x22 = some ⟨b23, o24, none⟩ ∧ ((0 : Int) ≤ v10 ∧ v10 < ((x22l : Nat) : Int) ∧ (∃ x25 : Int, ∃ x26 : Int, CellsAt (w12.drew) ⟨b23, o24 + (v10 : Int).toNat * 3, none⟩ [.int .i64 x25, .int .i64 x26] ∧ (∃ x27 : Int, ∃ x28 : Int, CellsAt (w12.drew) ⟨b5, 0, none⟩ [.int .i64 x27, .int .i64 x28] ∧ (∃ q29 : Bool, (∀ w' : World, (eqGuard .eql 31 (.tmp 35) (.tmp 36) (.agg #[.int .i64 x25, .int .i64 x26]) (.agg #[.int .i64 x27, .int .i64 x28])).run Try.prog w' = .ok () w') ∧ (∀ w' : World, (binOp .eql 31 (.agg #[.int .i64 x25, .int .i64 x26]) (.agg #[.int .i64 x27, .int .i64 x28])).run Try.prog w' = .ok (.bool q29) w') ∧ (((q29 = true) → (∃ x30 : Option Addr, ∃ x30l : Nat, ∃ x30c : Nat, World.cell? (w12.drew) ⟨b13, o14 + 1, none⟩ = some (.slice x30 x30l x30c) ∧ (∃ (b31 o32 : Nat), x30 = some ⟨b31, o32, none⟩ ∧ ((0 : Int) ≤ a_h2 ∧ a_h2 < ((x30l : Nat) : Int) ∧ (∃ x33 : Option Addr, ∃ x33l : Nat, ∃ x33c : Nat, World.cell? (w12.drew) ⟨b31, o32 + (a_h2 : Int).toNat, none⟩ = some (.slice x33 x33l x33c) ∧ (∃ (b34 o35 : Nat), x33 = some ⟨b34, o35, none⟩ ∧ ((0 : Int) ≤ v10 ∧ v10 < ((x33l : Nat) : Int) ∧ (∃ x36 : Int, World.cell? (w12.drew) ⟨b34, o35 + (v10 : Int).toNat * 3 + 2, none⟩ = some (.int .u32 x36) ∧ R (.returned (.tuple #[.int .u32 x36, .bool true])) (w12.drew))))))))) ∧ ((q29 = false) → (∀ r37 : Int, r37 = IntKind.wrap .i64 (v10 + 1) → (∃ m38, m38 < m11 ∧ I10 m38 r37 (w12.drew))))))))))))))) ∧ ((¬ ((v10 : Int) < ((x18l : Nat) : Int))) → R (.returned (.tuple #[.int .u32 0, .bool false])) w12))))))))) ∧ ((x7 = false) → R (.returned (.tuple #[.int .u32 0, .bool false])) w8))))

theorem vc25 {a_t1 : Option Addr} {a_h2 : Int} {a_k3 : Int} {a_k4 : Int} {w : World} {R : Ending → World → Prop} (H : Vc25 a_t1 a_h2 a_k3 a_k4 w R) : Calls Try.prog 25 #[.pointer a_t1, .int .i64 a_h2, .agg #[.int .i64 a_k3, .int .i64 a_k4]] w R := by
  unfold Vc25 at H
  refine calls_start [.pointer a_t1, .int .i64 a_h2, .agg #[.int .i64 a_k3, .int .i64 a_k4]] Try.func25 rfl Try.ntmps25 rfl ?_
  refine c_seq ?_
  intro K1 hK1
  refine c_region ?_
  obtain ⟨b5, hb2⟩ : ∃ b5 : Nat, b5 = World.heapSize w := ⟨_, rfl⟩
  obtain ⟨w6, hw3⟩ : ∃ w6 : World, w6 = World.alloc w (.cells #[.int .i64 a_k3, .int .i64 a_k4] 31) := ⟨_, rfl⟩
  replace H := H b5 w6 hb2 hw3
  refine L_val (v := .pointer (some ⟨b5, 0, none⟩)) (y_box (ev_tv rfl rfl) rfl hb2 hw3) ?_
  refine L_val (v := .int .u32 0) (y_assign ev_c) ?_
  refine L_val (v := .bool false) (y_assign ev_c) ?_
  refine l_nil ?_
  refine then_norm ?_
  refine hK1 _ _ ?_
  clear hK1
  refine c_seq ?_
  intro K4 hK4
  refine c_seq ?_
  intro K5 hK5
  refine c_region ?_
  refine L_val (v := .pointer a_t1) (y_move (ev_tv rfl rfl)) ?_
  refine L_val (v := .int .i64 a_h2) (y_move (ev_tv rfl rfl)) ?_
  refine L_call (y_call Try.call41 (map_ev2 (ev_tv rfl rfl) (ev_tv rfl rfl)) ev_f) (Calls.mono H ?_)
  clear H
  rintro _ w8 ⟨x7, rfl, H⟩
  refine ⟨_, rfl, ?_⟩
  rcases Bool.eq_false_or_eq_true x7 with hb6 | hb6
  · replace H := H.1 hb6
    have hq7 : Value.bool (x7) = Value.bool true := congrArg Value.bool hb6
    refine L_val (v := .bool false) (y_not_t (ev_tv rfl hq7)) ?_
    refine l_nil ?_
    refine then_norm ?_
    refine hK5 _ _ ?_
    clear hK5
    refine cond_f (ev_tv rfl rfl) ?_
    refine c_skip ?_
    refine then_norm ?_
    refine hK4 _ _ ?_
    clear hK4
    refine c_seq ?_
    intro K8 hK8
    refine c_seq ?_
    intro K9 hK9
    refine c_region ?_
    refine L_val (v := .int .i64 0) (y_assign ev_c) ?_
    refine l_nil ?_
    refine then_norm ?_
    refine hK9 _ _ ?_
    clear hK9
    refine c_block ?_
    obtain ⟨I10, ⟨m14, HI15⟩, H⟩ := H
    refine loop_fr ([(6, 8), (13, 48)]) (fun m ff ww => ∃ (v10 : Int), ff 8 = (.int .i64 v10 : Value) ∧ I10 m v10 ww) m14 ⟨0, rfl, HI15⟩ ?_
    rintro m11 f11 w12 hag12 ⟨v10, hs16, HI13⟩
    replace H := H m11 v10 w12 HI13
    refine c_seq ?_
    intro K17 hK17
    refine c_seq ?_
    intro K18 hK18
    refine c_region ?_
    refine L_val (v := .int .i64 v10) (y_move (ev_tv rfl hs16)) ?_
    refine L_val (v := .pointer a_t1) (y_move (ev_tv rfl ((hag12 0 rfl).trans rfl))) ?_
    obtain ⟨b13, o14, rfl, H⟩ := H
    refine L_val (v := .pointer (some ⟨b13, o14, none⟩)) (y_nilCheck (ev_tv rfl rfl)) ?_
    refine L_val (v := .pointer (some ⟨b13, o14 + 1, none⟩)) (Try.fa71_1 (ev_tv rfl rfl)) ?_
    obtain ⟨x15, x15l, x15c, hc19, H⟩ := H
    refine L_val (v := .slice x15 x15l x15c) (y_load Try.underlying68 rfl (ev_tv rfl rfl) hc19) ?_
    refine L_val (v := .int .i64 a_h2) (y_move (ev_tv rfl ((hag12 1 rfl).trans rfl))) ?_
    obtain ⟨b16, o17, rfl, H⟩ := H
    obtain ⟨hi20, hi21, H⟩ := H
    refine L_val (v := .pointer (some ⟨b16, o17 + (a_h2 : Int).toNat, none⟩)) (y_ix1 Try.underlying68 Try.type73 rfl (ev_tv rfl rfl) (ev_tv rfl rfl) hi20 hi21) ?_
    obtain ⟨x18, x18l, x18c, hc22, H⟩ := H
    refine L_val (v := .slice x18 x18l x18c) (y_load Try.underlying73 rfl (ev_tv rfl rfl) hc22) ?_
    refine L_val (v := .int .i64 ((x18l : Nat) : Int)) (y_len Try.underlying73 rfl (map_ev1 (ev_tv rfl rfl))) ?_
    refine L_val (v := .bool (decide ((v10 : Int) < ((x18l : Nat) : Int)))) (y_lss (ev_tv rfl rfl) (ev_tv rfl rfl)) ?_
    refine l_nil ?_
    refine then_norm ?_
    refine hK18 _ _ ?_
    clear hK18
    rcases (Decidable.em ((v10 : Int) < ((x18l : Nat) : Int))) with hb23 | hb23
    · replace H := H.1 hb23
      have hq24 : Value.bool (decide ((v10 : Int) < ((x18l : Nat) : Int))) = Value.bool true := congrArg Value.bool (decide_eq_true hb23)
      refine cond_t (ev_tv rfl hq24) ?_
      refine c_skip ?_
      refine then_norm ?_
      refine hK17 _ _ ?_
      clear hK17
      refine c_seq ?_
      intro K25 hK25
      refine c_block ?_
      refine c_seq ?_
      intro K26 hK26
      refine D_start Try.mixed rfl [] ?_
      refine start_keep fun hS => ?_
      refine D_pure (i := 0) (v := .pointer (some ⟨b13, o14, none⟩)) rfl (by kernel_rfl) (W_none rfl) (fun _ => y_move (ev_tv rfl ((hag12 0 rfl).trans rfl))) hS ?_
      intro hS
      refine D_pure (i := 1) (v := .pointer (some ⟨b13, o14, none⟩)) rfl (by kernel_rfl) (W_none rfl) (fun _ => y_nilCheck (ev_tv rfl rfl)) hS ?_
      intro hS
      refine D_pure (i := 2) (v := .pointer (some ⟨b13, o14 + 1, none⟩)) rfl (by kernel_rfl) (W_none rfl) (fun _ => Try.fa71_1 (ev_tv rfl rfl)) hS ?_
      intro hS
      refine D_pure (i := 4) (v := .int .i64 a_h2) rfl (by kernel_rfl) (W_none rfl) (fun _ => y_move (ev_tv rfl ((hag12 1 rfl).trans rfl))) hS ?_
      intro hS
      refine D_pure (i := 7) (v := .int .i64 v10) rfl (by kernel_rfl) (W_none rfl) (fun _ => y_move (ev_tv rfl hs16)) hS ?_
      intro hS
      obtain ⟨x19, x19l, x19c, hc27, H⟩ := H
      refine D_read (i := 3) (v := .slice x19 x19l x19c) rfl (by kernel_rfl) (W_none rfl) (fun wx => World.cell? wx ⟨b13, o14 + 1, none⟩ = some (.slice x19 x19l x19c)) hc27 (fun _ hcx => y_load Try.underlying68 rfl (ev_tv rfl rfl) hcx) hS ?_
      intro hS
      obtain ⟨b20, o21, rfl, H⟩ := H
      obtain ⟨hi28, hi29, H⟩ := H
      refine D_pure (i := 5) (v := .pointer (some ⟨b20, o21 + (a_h2 : Int).toNat, none⟩)) rfl (by kernel_rfl) (W_none rfl) (fun _ => y_ix1 Try.underlying68 Try.type73 rfl (ev_tv rfl rfl) (ev_tv rfl rfl) hi28 hi29) hS ?_
      intro hS
      obtain ⟨x22, x22l, x22c, hc30, H⟩ := H
      refine D_read (i := 6) (v := .slice x22 x22l x22c) rfl (by kernel_rfl) (W_none rfl) (fun wx => World.cell? wx ⟨b20, o21 + (a_h2 : Int).toNat, none⟩ = some (.slice x22 x22l x22c)) hc30 (fun _ hcx => y_load Try.underlying73 rfl (ev_tv rfl rfl) hcx) hS ?_
      intro hS
      obtain ⟨b23, o24, rfl, H⟩ := H
      obtain ⟨hi31, hi32, H⟩ := H
      refine D_pure (i := 8) (v := .pointer (some ⟨b23, o24 + (v10 : Int).toNat * 3, none⟩)) rfl (by kernel_rfl) (W_none rfl) (fun _ => y_ix Try.underlying73 Try.type75 rfl (ev_tv rfl rfl) (ev_tv rfl rfl) hi31 hi32) hS ?_
      intro hS
      refine D_pure (i := 9) (v := .pointer (some ⟨b23, o24 + (v10 : Int).toNat * 3, none⟩)) rfl (by kernel_rfl) (W_none rfl) (fun _ => Try.fa75_0 (ev_tv rfl rfl)) hS ?_
      intro hS
      obtain ⟨x25, x26, hc33, H⟩ := H
      refine D_read (i := 10) (v := .agg #[.int .i64 x25, .int .i64 x26]) rfl (by kernel_rfl) (W_none rfl) (fun wx => CellsAt wx ⟨b23, o24 + (v10 : Int).toNat * 3, none⟩ [.int .i64 x25, .int .i64 x26]) hc33 (fun _ hcx => y_loadAgg Try.underlying31 rfl Try.type31 rfl (ev_tv rfl rfl) hcx) hS ?_
      intro hS
      obtain ⟨x27, x28, hc34, H⟩ := H
      refine D_read (i := 11) (v := .agg #[.int .i64 x27, .int .i64 x28]) rfl (by kernel_rfl) (W_none rfl) (fun wx => CellsAt wx ⟨b5, 0, none⟩ [.int .i64 x27, .int .i64 x28]) hc34 (fun _ hcx => y_loadAgg Try.underlying31 rfl Try.type31 rfl (ev_tv rfl ((hag12 5 rfl).trans rfl)) hcx) hS ?_
      intro hS
      obtain ⟨q29, hg36, hc35, H⟩ := H
      refine D_pure (i := 12) (v := .bool q29) rfl (by kernel_rfl) (W_none rfl) (fun _ => y_eqv (ev_tv rfl rfl) (ev_tv rfl rfl) (hg36 _) (hc35 _)) hS ?_
      intro hS
      refine D_done (by kernel_rfl) ?_
      refine then_norm ?_
      refine hK26 _ _ ?_
      clear hK26
      rcases Bool.eq_false_or_eq_true q29 with hb37 | hb37
      · replace H := H.1 hb37
        have hq38 : Value.bool (q29) = Value.bool true := congrArg Value.bool hb37
        refine cond_t (ev_tv rfl hq38) ?_
        refine c_seq ?_
        intro K39 hK39
        refine c_region ?_
        refine L_val (v := .pointer (some ⟨b13, o14, none⟩)) (y_move (ev_tv rfl ((hag12 0 rfl).trans rfl))) ?_
        refine L_val (v := .pointer (some ⟨b13, o14, none⟩)) (y_nilCheck (ev_tv rfl rfl)) ?_
        refine L_val (v := .pointer (some ⟨b13, o14 + 1, none⟩)) (Try.fa71_1 (ev_tv rfl rfl)) ?_
        obtain ⟨x30, x30l, x30c, hc40, H⟩ := H
        refine L_val (v := .slice x30 x30l x30c) (y_load Try.underlying68 rfl (ev_tv rfl rfl) hc40) ?_
        refine L_val (v := .int .i64 a_h2) (y_move (ev_tv rfl ((hag12 1 rfl).trans rfl))) ?_
        obtain ⟨b31, o32, rfl, H⟩ := H
        obtain ⟨hi41, hi42, H⟩ := H
        refine L_val (v := .pointer (some ⟨b31, o32 + (a_h2 : Int).toNat, none⟩)) (y_ix1 Try.underlying68 Try.type73 rfl (ev_tv rfl rfl) (ev_tv rfl rfl) hi41 hi42) ?_
        obtain ⟨x33, x33l, x33c, hc43, H⟩ := H
        refine L_val (v := .slice x33 x33l x33c) (y_load Try.underlying73 rfl (ev_tv rfl rfl) hc43) ?_
        refine L_val (v := .int .i64 v10) (y_move (ev_tv rfl hs16)) ?_
        obtain ⟨b34, o35, rfl, H⟩ := H
        obtain ⟨hi44, hi45, H⟩ := H
        refine L_val (v := .pointer (some ⟨b34, o35 + (v10 : Int).toNat * 3, none⟩)) (y_ix Try.underlying73 Try.type75 rfl (ev_tv rfl rfl) (ev_tv rfl rfl) hi44 hi45) ?_
        refine L_val (v := .pointer (some ⟨b34, o35 + (v10 : Int).toNat * 3 + 2, none⟩)) (Try.fa75_1 (ev_tv rfl rfl)) ?_
        obtain ⟨x36, hc46, H⟩ := H
        refine L_val (v := .int .u32 x36) (y_load Try.underlying32 rfl (ev_tv rfl rfl) hc46) ?_
        refine L_val (v := .int .u32 x36) (y_assign (ev_tv rfl rfl)) ?_
        refine L_val (v := .bool true) (y_assign ev_c) ?_
        refine l_nil ?_
        refine then_norm ?_
        refine hK39 _ _ ?_
        clear hK39
        refine c_ret ?_
        refine block_ret ?_
        refine then_ret ?_
        refine then_ret ?_
        refine block_ret ?_
        refine then_ret ?_
        exact body_2 rfl (ev_tv rfl rfl) (ev_tv rfl rfl) H
      · replace H := H.2 hb37
        have hq38 : Value.bool (q29) = Value.bool false := congrArg Value.bool hb37
        refine cond_f (ev_tv rfl hq38) ?_
        refine c_skip ?_
        refine block_norm ?_
        refine then_norm ?_
        refine hK25 _ _ ?_
        clear hK25
        refine c_region ?_
        refine L_val (v := .int .i64 v10) (y_move (ev_tv rfl hs16)) ?_
        obtain ⟨r37, hr47⟩ : ∃ r37 : Int, r37 = IntKind.wrap .i64 (v10 + 1) := ⟨_, rfl⟩
        replace H := H r37 hr47
        refine L_val (v := .int .i64 r37) (y_add (ev_tv rfl rfl) ev_c hr47) ?_
        refine L_val (v := .int .i64 r37) (y_assign (ev_tv rfl rfl)) ?_
        refine l_nil ?_
        refine then_norm ?_
        obtain ⟨m38, hm48, H⟩ := H
        exact ⟨_, rfl, (by repeat (first | exact agree_refl | exact hag12 | refine agree_upd rfl ?_ | refine agree_via hag12 rfl ?_)), m38, hm48, _, rfl, H⟩
    · replace H := H.2 hb23
      have hq24 : Value.bool (decide ((v10 : Int) < ((x18l : Nat) : Int))) = Value.bool false := congrArg Value.bool (decide_eq_false hb23)
      refine cond_f (ev_tv rfl hq24) ?_
      refine c_exit ?_
      refine then_exit ?_
      refine then_exit ?_
      refine block_hit ?_
      refine then_norm ?_
      refine hK8 _ _ ?_
      clear hK8
      refine c_seq ?_
      intro K49 hK49
      refine c_region ?_
      refine L_val (v := .int .u32 0) (y_assign ev_c) ?_
      refine L_val (v := .bool false) (y_assign ev_c) ?_
      refine l_nil ?_
      refine then_norm ?_
      refine hK49 _ _ ?_
      clear hK49
      refine c_ret ?_
      exact body_2 rfl (ev_tv rfl rfl) (ev_tv rfl rfl) H
  · replace H := H.2 hb6
    have hq7 : Value.bool (x7) = Value.bool false := congrArg Value.bool hb6
    refine L_val (v := .bool true) (y_not_f (ev_tv rfl hq7)) ?_
    refine l_nil ?_
    refine then_norm ?_
    refine hK5 _ _ ?_
    clear hK5
    refine cond_t (ev_tv rfl rfl) ?_
    refine c_seq ?_
    intro K50 hK50
    refine c_region ?_
    refine L_val (v := .int .u32 0) (y_assign ev_c) ?_
    refine L_val (v := .bool false) (y_assign ev_c) ?_
    refine l_nil ?_
    refine then_norm ?_
    refine hK50 _ _ ?_
    clear hK50
    refine c_ret ?_
    refine then_ret ?_
    exact body_2 rfl (ev_tv rfl rfl) (ev_tv rfl rfl) H

/-- (parapet/parapetref07.Tlb).Fill -/
def Vc26 (a_t1 : Option Addr) (a_h2 : Int) (a_k3 : Int) (a_k4 : Int) (a_entry5 : Int) (w : World) (R : Ending → World → Prop) : Prop :=
  (∀ (b6 : Nat) (w7 : World), b6 = World.heapSize w → w7 = World.alloc w (.cells #[.int .i64 a_k3, .int .i64 a_k4] 31) → (Calls Try.prog 41 #[.pointer a_t1, .int .i64 a_h2] w7 fun e w9 => ∃ x8 : Bool, e = .returned (.bool x8) ∧ (((x8 = true) → (∃ J8 : World → Prop, (∀  (w11 : World), J8  w11 → (∃ J14 : World → Prop, (∀  (w12 : World), J14  w12 → (∃ (b13 o14 : Nat), a_t1 = some ⟨b13, o14, none⟩ ∧ (∃ x15 : Option Addr, ∃ x15l : Nat, ∃ x15c : Nat, World.cell? (w12.drew) ⟨b13, o14 + 1, none⟩ = some (.slice x15 x15l x15c) ∧ (∃ x16 : Option Addr, ∃ x16l : Nat, ∃ x16c : Nat, World.cell? (w12.drew) ⟨b13, o14 + 1, none⟩ = some (.slice x16 x16l x16c) ∧ (∃ (b17 o18 : Nat), x16 = some ⟨b17, o18, none⟩ ∧ ((0 : Int) ≤ a_h2 ∧ a_h2 < ((x16l : Nat) : Int) ∧ (∃ x19 : Option Addr, ∃ x19l : Nat, ∃ x19c : Nat, World.cell? (w12.drew) ⟨b17, o18 + (a_h2 : Int).toNat, none⟩ = some (.slice x19 x19l x19c) ∧ (∃ x20 : Int, ∃ x21 : Int, CellsAt (w12.drew) ⟨b6, 0, none⟩ [.int .i64 x20, .int .i64 x21] ∧ (∀ (b22 : Nat) (w23 : World), b22 = World.heapSize (w12.drew) → w23 = World.alloc (w12.drew) (.cells #[.int .i64 x20, .int .i64 x21, .int .u32 a_entry5] 75) → (CellsAt w23 ⟨b6, 0, none⟩ [.int .i64 x20, .int .i64 x21] ∧ World.cell? w23 ⟨b17, o18 + (a_h2 : Int).toNat, none⟩ = some (.slice x19 x19l x19c) ∧ World.cell? w23 ⟨b13, o14 + 1, none⟩ = some (.slice x16 x16l x16c) ∧ World.cell? w23 ⟨b13, o14 + 1, none⟩ = some (.slice x15 x15l x15c) ∧ (∃ x25 : Option Addr, ∃ x25l : Nat, ∃ x25c : Nat, ∃ w24 : World, (Builtin.append_ #[73, 73] 73 #[.slice x19 x19l x19c, .slice (some ⟨b22, 0, none⟩) 1 1]).run Try.prog w23 = .ok (.slice x25 x25l x25c) w24 ∧ (CellsAt w24 ⟨b6, 0, none⟩ [.int .i64 x20, .int .i64 x21] ∧ World.cell? w24 ⟨b13, o14 + 1, none⟩ = some (.slice x16 x16l x16c) ∧ World.cell? w24 ⟨b13, o14 + 1, none⟩ = some (.slice x15 x15l x15c) ∧ (∃ (b26 o27 : Nat), x15 = some ⟨b26, o27, none⟩ ∧ ((0 : Int) ≤ a_h2 ∧ a_h2 < ((x15l : Nat) : Int) ∧ ((World.cell? w24 ⟨b26, o27 + (a_h2 : Int).toNat, none⟩).isSome = true ∧ World.frozen? w24 ⟨b26, o27 + (a_h2 : Int).toNat, none⟩ = false ∧ ∀ w28 : World, w28 = World.setCell w24 ⟨b26, o27 + (a_h2 : Int).toNat, none⟩ (.slice x25 x25l x25c) → R (.returned (.int .i64 0)) w28))))))))))))))) ∧ (∃ (b29 o30 : Nat), a_t1 = some ⟨b29, o30, none⟩ ∧ (∃ x31 : Option Addr, ∃ x31l : Nat, ∃ x31c : Nat, World.cell? (w11.drew) ⟨b29, o30 + 1, none⟩ = some (.slice x31 x31l x31c) ∧ (∃ (b32 o33 : Nat), x31 = some ⟨b32, o33, none⟩ ∧ ((0 : Int) ≤ a_h2 ∧ a_h2 < ((x31l : Nat) : Int) ∧ (∃ x34 : Option Addr, ∃ x34l : Nat, ∃ x34c : Nat, World.cell? (w11.drew) ⟨b32, o33 + (a_h2 : Int).toNat, none⟩ = some (.slice x34 x34l x34c) ∧ (∃ x35 : Int, World.cell? (w11.drew) ⟨b29, o30, none⟩ = some (.int .i64 x35) ∧ ((((x35 : Int) ≤ ((x34l : Nat) : Int)) → (∃ x36 : Option Addr, ∃ x36l : Nat, ∃ x36c : Nat, World.cell? ((w11.drew).drew) ⟨b29, o30 + 1, none⟩ = some (.slice x36 x36l x36c) ∧ (∃ x37 : Option Addr, ∃ x37l : Nat, ∃ x37c : Nat, World.cell? ((w11.drew).drew) ⟨b29, o30 + 1, none⟩ = some (.slice x37 x37l x37c) ∧ (∃ (b38 o39 : Nat), x37 = some ⟨b38, o39, none⟩ ∧ ((0 : Int) ≤ a_h2 ∧ a_h2 < ((x37l : Nat) : Int) ∧ (∃ x40 : Option Addr, ∃ x40l : Nat, ∃ x40c : Nat, World.cell? ((w11.drew).drew) ⟨b38, o39 + (a_h2 : Int).toNat, none⟩ = some (.slice x40 x40l x40c) ∧ ((0 : Int) ≤ 1 ∧ 1 ≤ ((x40l : Nat) : Int) ∧ ∀ a41 : Option Addr, a41 = subA x40 3 x40c (1 : Int).toNat → (∀ (b42 : Nat) (w43 : World), b42 = World.heapSize ((w11.drew).drew) → w43 = World.alloc ((w11.drew).drew) (.cells #[] 75) → (World.cell? w43 ⟨b38, o39 + (a_h2 : Int).toNat, none⟩ = some (.slice x40 x40l x40c) ∧ World.cell? w43 ⟨b29, o30 + 1, none⟩ = some (.slice x37 x37l x37c) ∧ World.cell? w43 ⟨b29, o30 + 1, none⟩ = some (.slice x36 x36l x36c) ∧ (∃ x45 : Option Addr, ∃ x45l : Nat, ∃ x45c : Nat, ∃ w44 : World, (Builtin.append_ #[73, 73] 73 #[.slice (some ⟨b42, 0, none⟩) 0 0, .slice a41 (x40l - (1 : Int).toNat) (x40c - (1 : Int).toNat)]).run Try.prog w43 = .ok (.slice x45 x45l x45c) w44 ∧ (World.cell? w44 ⟨b38, o39 + (a_h2 : Int).toNat, none⟩ = some (.slice x40 x40l x40c) ∧ World.cell? w44 ⟨b29, o30 + 1, none⟩ = some (.slice x37 x37l x37c) ∧ World.cell? w44 ⟨b29, o30 + 1, none⟩ = some (.slice x36 x36l x36c) ∧ (∃ (b46 o47 : Nat), x36 = some ⟨b46, o47, none⟩ ∧ ((0 : Int) ≤ a_h2 ∧ a_h2 < ((x36l : Nat) : Int) ∧ ((World.cell? w44 ⟨b46, o47 + (a_h2 : Int).toNat, none⟩).isSome = true ∧ World.frozen? w44 ⟨b46, o47 + (a_h2 : Int).toNat, none⟩ = false ∧ ∀ w48 : World, w48 = World.setCell w44 ⟨b46, o47 + (a_h2 : Int).toNat, none⟩ (.slice x45 x45l x45c) → J14  w48)))))))))))))) ∧ ((¬ ((x35 : Int) ≤ ((x34l : Nat) : Int))) → J14  (w11.drew))))))))))) ∧ (∃ I74 : Nat → Int → World → Prop, (∃ m, I74 m 0 w9) ∧ ∀ (m50 : Nat) (v49 : Int) (w51 : World), I74 m50 v49 w51 → (∃ (b52 o53 : Nat), a_t1 = some ⟨b52, o53, none⟩ ∧ (∃ x54 : Option Addr, ∃ x54l : Nat, ∃ x54c : Nat, World.cell? w51 ⟨b52, o53 + 1, none⟩ = some (.slice x54 x54l x54c) ∧ (∃ (b55 o56 : Nat), x54 = some ⟨b55, o56, none⟩ ∧ ((0 : Int) ≤ a_h2 ∧ a_h2 < ((x54l : Nat) : Int) ∧ (∃ x57 : Option Addr, ∃ x57l : Nat, ∃ x57c : Nat, World.cell? w51 ⟨b55, o56 + (a_h2 : Int).toNat, none⟩ = some (.slice x57 x57l x57c) ∧ ((((v49 : Int) < ((x57l : Nat) : Int)) → (∃ x58 : Option Addr, ∃ x58l : Nat, ∃ x58c : Nat, World.cell? (w51.drew) ⟨b52, o53 + 1, none⟩ = some (.slice x58 x58l x58c) ∧ (∃ (b59 o60 : Nat), x58 = some ⟨b59, o60, none⟩ ∧ ((0 : Int) ≤ a_h2 ∧ a_h2 < ((x58l : Nat) : Int) ∧ (∃ x61 : Option Addr, ∃ x61l : Nat, ∃ x61c : Nat, World.cell? (w51.drew) ⟨b59, o60 + (a_h2 : Int).toNat, none⟩ = some (.slice x61 x61l x61c) ∧ (∃ (b62 o63 : Nat), x61 = some ⟨b62, o63, none⟩ ∧ ((0 : Int) ≤ v49 ∧ v49 < ((x61l : Nat) : Int) ∧ (∃ x64 : Int, ∃ x65 : Int, CellsAt (w51.drew) ⟨b62, o63 + (v49 : Int).toNat * 3, none⟩ [.int .i64 x64, .int .i64 x65] ∧ (∃ x66 : Int, ∃ x67 : Int, CellsAt (w51.drew) ⟨b6, 0, none⟩ [.int .i64 x66, .int .i64 x67] ∧ (∃ q68 : Bool, (∀ w' : World, (eqGuard .eql 31 (.tmp 36) (.tmp 37) (.agg #[.int .i64 x64, .int .i64 x65]) (.agg #[.int .i64 x66, .int .i64 x67])).run Try.prog w' = .ok () w') ∧ (∀ w' : World, (binOp .eql 31 (.agg #[.int .i64 x64, .int .i64 x65]) (.agg #[.int .i64 x66, .int .i64 x67])).run Try.prog w' = .ok (.bool q68) w') ∧ (((q68 = true) → (∃ x69 : Option Addr, ∃ x69l : Nat, ∃ x69c : Nat, World.cell? (w51.drew) ⟨b52, o53 + 1, none⟩ = some (.slice x69 x69l x69c) ∧ (∃ (b70 o71 : Nat), x69 = some ⟨b70, o71, none⟩ ∧ ((0 : Int) ≤ a_h2 ∧ a_h2 < ((x69l : Nat) : Int) ∧ (∃ x72 : Option Addr, ∃ x72l : Nat, ∃ x72c : Nat, World.cell? (w51.drew) ⟨b70, o71 + (a_h2 : Int).toNat, none⟩ = some (.slice x72 x72l x72c) ∧ (∃ (b73 o74 : Nat), x72 = some ⟨b73, o74, none⟩ ∧ ((0 : Int) ≤ v49 ∧ v49 < ((x72l : Nat) : Int) ∧ ((World.cell? (w51.drew) ⟨b73, o74 + (v49 : Int).toNat * 3 + 2, none⟩).isSome = true ∧ World.frozen? (w51.drew) ⟨b73, o74 + (v49 : Int).toNat * 3 + 2, none⟩ = false ∧ ∀ w75 : World, w75 = World.setCell (w51.drew) ⟨b73, o74 + (v49 : Int).toNat * 3 + 2, none⟩ (.int .u32 a_entry5) → R (.returned (.int .i64 0)) w75)))))))) ∧ ((q68 = false) → (∀ r76 : Int, r76 = IntKind.wrap .i64 (v49 + 1) → (∃ m77, m77 < m50 ∧ I74 m77 r76 (w51.drew))))))))))))))) ∧ ((¬ ((v49 : Int) < ((x57l : Nat) : Int))) → J8  w51)))))))))) ∧ ((x8 = false) → R (.returned (.int .i64 1)) w9))))

theorem vc26 {a_t1 : Option Addr} {a_h2 : Int} {a_k3 : Int} {a_k4 : Int} {a_entry5 : Int} {w : World} {R : Ending → World → Prop} (H : Vc26 a_t1 a_h2 a_k3 a_k4 a_entry5 w R) : Calls Try.prog 26 #[.pointer a_t1, .int .i64 a_h2, .agg #[.int .i64 a_k3, .int .i64 a_k4], .int .u32 a_entry5] w R := by
  unfold Vc26 at H
  refine calls_start [.pointer a_t1, .int .i64 a_h2, .agg #[.int .i64 a_k3, .int .i64 a_k4], .int .u32 a_entry5] Try.func26 rfl Try.ntmps26 rfl ?_
  refine c_seq ?_
  intro K1 hK1
  refine c_region ?_
  obtain ⟨b6, hb2⟩ : ∃ b6 : Nat, b6 = World.heapSize w := ⟨_, rfl⟩
  obtain ⟨w7, hw3⟩ : ∃ w7 : World, w7 = World.alloc w (.cells #[.int .i64 a_k3, .int .i64 a_k4] 31) := ⟨_, rfl⟩
  replace H := H b6 w7 hb2 hw3
  refine L_val (v := .pointer (some ⟨b6, 0, none⟩)) (y_box (ev_tv rfl rfl) rfl hb2 hw3) ?_
  refine L_val (v := .int .i64 0) (y_assign ev_c) ?_
  refine l_nil ?_
  refine then_norm ?_
  refine hK1 _ _ ?_
  clear hK1
  refine c_seq ?_
  intro K4 hK4
  refine c_seq ?_
  intro K5 hK5
  refine c_region ?_
  refine L_val (v := .pointer a_t1) (y_move (ev_tv rfl rfl)) ?_
  refine L_val (v := .int .i64 a_h2) (y_move (ev_tv rfl rfl)) ?_
  refine L_call (y_call Try.call41 (map_ev2 (ev_tv rfl rfl) (ev_tv rfl rfl)) ev_f) (Calls.mono H ?_)
  clear H
  rintro _ w9 ⟨x8, rfl, H⟩
  refine ⟨_, rfl, ?_⟩
  rcases Bool.eq_false_or_eq_true x8 with hb6 | hb6
  · replace H := H.1 hb6
    have hq7 : Value.bool (x8) = Value.bool true := congrArg Value.bool hb6
    refine L_val (v := .bool false) (y_not_t (ev_tv rfl hq7)) ?_
    refine l_nil ?_
    refine then_norm ?_
    refine hK5 _ _ ?_
    clear hK5
    refine cond_f (ev_tv rfl rfl) ?_
    refine c_skip ?_
    refine then_norm ?_
    refine hK4 _ _ ?_
    clear hK4
    obtain ⟨J8, hJ9, H⟩ := H
    refine c_seqJ [(8, 9), (14, 49)] (fun ff ww => J8  ww) ?_ ?_
    · clear hJ9
      intro K13 hK13
      refine c_seq ?_
      intro K73 hK73
      refine c_region ?_
      refine L_val (v := .int .i64 0) (y_assign ev_c) ?_
      refine l_nil ?_
      refine then_norm ?_
      refine hK73 _ _ ?_
      clear hK73
      refine c_block ?_
      obtain ⟨I74, ⟨m78, HI79⟩, H⟩ := H
      refine loop_fr ([(8, 9), (14, 49)]) (fun m ff ww => ∃ (v49 : Int), ff 9 = (.int .i64 v49 : Value) ∧ I74 m v49 ww) m78 ⟨0, rfl, HI79⟩ ?_
      rintro m50 f75 w51 hag76 ⟨v49, hs80, HI77⟩
      replace H := H m50 v49 w51 HI77
      refine c_seq ?_
      intro K81 hK81
      refine c_seq ?_
      intro K82 hK82
      refine c_region ?_
      refine L_val (v := .int .i64 v49) (y_move (ev_tv rfl hs80)) ?_
      refine L_val (v := .pointer a_t1) (y_move (ev_tv rfl ((hag76 0 rfl).trans rfl))) ?_
      obtain ⟨b52, o53, rfl, H⟩ := H
      refine L_val (v := .pointer (some ⟨b52, o53, none⟩)) (y_nilCheck (ev_tv rfl rfl)) ?_
      refine L_val (v := .pointer (some ⟨b52, o53 + 1, none⟩)) (Try.fa71_1 (ev_tv rfl rfl)) ?_
      obtain ⟨x54, x54l, x54c, hc83, H⟩ := H
      refine L_val (v := .slice x54 x54l x54c) (y_load Try.underlying68 rfl (ev_tv rfl rfl) hc83) ?_
      refine L_val (v := .int .i64 a_h2) (y_move (ev_tv rfl ((hag76 1 rfl).trans rfl))) ?_
      obtain ⟨b55, o56, rfl, H⟩ := H
      obtain ⟨hi84, hi85, H⟩ := H
      refine L_val (v := .pointer (some ⟨b55, o56 + (a_h2 : Int).toNat, none⟩)) (y_ix1 Try.underlying68 Try.type73 rfl (ev_tv rfl rfl) (ev_tv rfl rfl) hi84 hi85) ?_
      obtain ⟨x57, x57l, x57c, hc86, H⟩ := H
      refine L_val (v := .slice x57 x57l x57c) (y_load Try.underlying73 rfl (ev_tv rfl rfl) hc86) ?_
      refine L_val (v := .int .i64 ((x57l : Nat) : Int)) (y_len Try.underlying73 rfl (map_ev1 (ev_tv rfl rfl))) ?_
      refine L_val (v := .bool (decide ((v49 : Int) < ((x57l : Nat) : Int)))) (y_lss (ev_tv rfl rfl) (ev_tv rfl rfl)) ?_
      refine l_nil ?_
      refine then_norm ?_
      refine hK82 _ _ ?_
      clear hK82
      rcases (Decidable.em ((v49 : Int) < ((x57l : Nat) : Int))) with hb87 | hb87
      · replace H := H.1 hb87
        have hq88 : Value.bool (decide ((v49 : Int) < ((x57l : Nat) : Int))) = Value.bool true := congrArg Value.bool (decide_eq_true hb87)
        refine cond_t (ev_tv rfl hq88) ?_
        refine c_skip ?_
        refine then_norm ?_
        refine hK81 _ _ ?_
        clear hK81
        refine c_seq ?_
        intro K89 hK89
        refine c_block ?_
        refine c_seq ?_
        intro K90 hK90
        refine D_start Try.mixed rfl [] ?_
        refine start_keep fun hS => ?_
        refine D_pure (i := 0) (v := .pointer (some ⟨b52, o53, none⟩)) rfl (by kernel_rfl) (W_none rfl) (fun _ => y_move (ev_tv rfl ((hag76 0 rfl).trans rfl))) hS ?_
        intro hS
        refine D_pure (i := 1) (v := .pointer (some ⟨b52, o53, none⟩)) rfl (by kernel_rfl) (W_none rfl) (fun _ => y_nilCheck (ev_tv rfl rfl)) hS ?_
        intro hS
        refine D_pure (i := 2) (v := .pointer (some ⟨b52, o53 + 1, none⟩)) rfl (by kernel_rfl) (W_none rfl) (fun _ => Try.fa71_1 (ev_tv rfl rfl)) hS ?_
        intro hS
        refine D_pure (i := 4) (v := .int .i64 a_h2) rfl (by kernel_rfl) (W_none rfl) (fun _ => y_move (ev_tv rfl ((hag76 1 rfl).trans rfl))) hS ?_
        intro hS
        refine D_pure (i := 7) (v := .int .i64 v49) rfl (by kernel_rfl) (W_none rfl) (fun _ => y_move (ev_tv rfl hs80)) hS ?_
        intro hS
        obtain ⟨x58, x58l, x58c, hc91, H⟩ := H
        refine D_read (i := 3) (v := .slice x58 x58l x58c) rfl (by kernel_rfl) (W_none rfl) (fun wx => World.cell? wx ⟨b52, o53 + 1, none⟩ = some (.slice x58 x58l x58c)) hc91 (fun _ hcx => y_load Try.underlying68 rfl (ev_tv rfl rfl) hcx) hS ?_
        intro hS
        obtain ⟨b59, o60, rfl, H⟩ := H
        obtain ⟨hi92, hi93, H⟩ := H
        refine D_pure (i := 5) (v := .pointer (some ⟨b59, o60 + (a_h2 : Int).toNat, none⟩)) rfl (by kernel_rfl) (W_none rfl) (fun _ => y_ix1 Try.underlying68 Try.type73 rfl (ev_tv rfl rfl) (ev_tv rfl rfl) hi92 hi93) hS ?_
        intro hS
        obtain ⟨x61, x61l, x61c, hc94, H⟩ := H
        refine D_read (i := 6) (v := .slice x61 x61l x61c) rfl (by kernel_rfl) (W_none rfl) (fun wx => World.cell? wx ⟨b59, o60 + (a_h2 : Int).toNat, none⟩ = some (.slice x61 x61l x61c)) hc94 (fun _ hcx => y_load Try.underlying73 rfl (ev_tv rfl rfl) hcx) hS ?_
        intro hS
        obtain ⟨b62, o63, rfl, H⟩ := H
        obtain ⟨hi95, hi96, H⟩ := H
        refine D_pure (i := 8) (v := .pointer (some ⟨b62, o63 + (v49 : Int).toNat * 3, none⟩)) rfl (by kernel_rfl) (W_none rfl) (fun _ => y_ix Try.underlying73 Try.type75 rfl (ev_tv rfl rfl) (ev_tv rfl rfl) hi95 hi96) hS ?_
        intro hS
        refine D_pure (i := 9) (v := .pointer (some ⟨b62, o63 + (v49 : Int).toNat * 3, none⟩)) rfl (by kernel_rfl) (W_none rfl) (fun _ => Try.fa75_0 (ev_tv rfl rfl)) hS ?_
        intro hS
        obtain ⟨x64, x65, hc97, H⟩ := H
        refine D_read (i := 10) (v := .agg #[.int .i64 x64, .int .i64 x65]) rfl (by kernel_rfl) (W_none rfl) (fun wx => CellsAt wx ⟨b62, o63 + (v49 : Int).toNat * 3, none⟩ [.int .i64 x64, .int .i64 x65]) hc97 (fun _ hcx => y_loadAgg Try.underlying31 rfl Try.type31 rfl (ev_tv rfl rfl) hcx) hS ?_
        intro hS
        obtain ⟨x66, x67, hc98, H⟩ := H
        refine D_read (i := 11) (v := .agg #[.int .i64 x66, .int .i64 x67]) rfl (by kernel_rfl) (W_none rfl) (fun wx => CellsAt wx ⟨b6, 0, none⟩ [.int .i64 x66, .int .i64 x67]) hc98 (fun _ hcx => y_loadAgg Try.underlying31 rfl Try.type31 rfl (ev_tv rfl ((hag76 6 rfl).trans rfl)) hcx) hS ?_
        intro hS
        obtain ⟨q68, hg100, hc99, H⟩ := H
        refine D_pure (i := 12) (v := .bool q68) rfl (by kernel_rfl) (W_none rfl) (fun _ => y_eqv (ev_tv rfl rfl) (ev_tv rfl rfl) (hg100 _) (hc99 _)) hS ?_
        intro hS
        refine D_done (by kernel_rfl) ?_
        refine then_norm ?_
        refine hK90 _ _ ?_
        clear hK90
        rcases Bool.eq_false_or_eq_true q68 with hb101 | hb101
        · replace H := H.1 hb101
          have hq102 : Value.bool (q68) = Value.bool true := congrArg Value.bool hb101
          refine cond_t (ev_tv rfl hq102) ?_
          refine c_seq ?_
          intro K103 hK103
          refine c_region ?_
          refine L_val (v := .pointer (some ⟨b52, o53, none⟩)) (y_move (ev_tv rfl ((hag76 0 rfl).trans rfl))) ?_
          refine L_val (v := .pointer (some ⟨b52, o53, none⟩)) (y_nilCheck (ev_tv rfl rfl)) ?_
          refine L_val (v := .pointer (some ⟨b52, o53 + 1, none⟩)) (Try.fa71_1 (ev_tv rfl rfl)) ?_
          obtain ⟨x69, x69l, x69c, hc104, H⟩ := H
          refine L_val (v := .slice x69 x69l x69c) (y_load Try.underlying68 rfl (ev_tv rfl rfl) hc104) ?_
          refine L_val (v := .int .i64 a_h2) (y_move (ev_tv rfl ((hag76 1 rfl).trans rfl))) ?_
          obtain ⟨b70, o71, rfl, H⟩ := H
          obtain ⟨hi105, hi106, H⟩ := H
          refine L_val (v := .pointer (some ⟨b70, o71 + (a_h2 : Int).toNat, none⟩)) (y_ix1 Try.underlying68 Try.type73 rfl (ev_tv rfl rfl) (ev_tv rfl rfl) hi105 hi106) ?_
          obtain ⟨x72, x72l, x72c, hc107, H⟩ := H
          refine L_val (v := .slice x72 x72l x72c) (y_load Try.underlying73 rfl (ev_tv rfl rfl) hc107) ?_
          refine L_val (v := .int .i64 v49) (y_move (ev_tv rfl hs80)) ?_
          refine L_val (v := .int .u32 a_entry5) (y_move (ev_tv rfl ((hag76 3 rfl).trans rfl))) ?_
          obtain ⟨b73, o74, rfl, H⟩ := H
          obtain ⟨hi108, hi109, H⟩ := H
          refine L_val (v := .pointer (some ⟨b73, o74 + (v49 : Int).toNat * 3, none⟩)) (y_ix Try.underlying73 Try.type75 rfl (ev_tv rfl rfl) (ev_tv rfl rfl) hi108 hi109) ?_
          refine L_val (v := .pointer (some ⟨b73, o74 + (v49 : Int).toNat * 3 + 2, none⟩)) (Try.fa75_1 (ev_tv rfl rfl)) ?_
          obtain ⟨hc110, hf111, H⟩ := H
          obtain ⟨w75, hw112⟩ : ∃ w75 : World, w75 = World.setCell (w51.drew) ⟨b73, o74 + (v49 : Int).toNat * 3 + 2, none⟩ (.int .u32 a_entry5) := ⟨_, rfl⟩
          replace H := H w75 hw112
          refine L_skip (y_store Try.type32 rfl rfl (ev_tv rfl rfl) (ev_tv rfl rfl) hc110 hf111 hw112) ?_
          refine l_nil ?_
          refine then_norm ?_
          refine hK103 _ _ ?_
          clear hK103
          refine c_seq ?_
          intro K113 hK113
          refine c_region ?_
          refine L_val (v := .int .i64 0) (y_assign ev_c) ?_
          refine l_nil ?_
          refine then_norm ?_
          refine hK113 _ _ ?_
          clear hK113
          refine c_ret ?_
          refine block_ret ?_
          refine then_ret ?_
          refine then_ret ?_
          refine block_ret ?_
          refine then_ret ?_
          exact body_1 rfl (ev_tv rfl rfl) H
        · replace H := H.2 hb101
          have hq102 : Value.bool (q68) = Value.bool false := congrArg Value.bool hb101
          refine cond_f (ev_tv rfl hq102) ?_
          refine c_skip ?_
          refine block_norm ?_
          refine then_norm ?_
          refine hK89 _ _ ?_
          clear hK89
          refine c_region ?_
          refine L_val (v := .int .i64 v49) (y_move (ev_tv rfl hs80)) ?_
          obtain ⟨r76, hr114⟩ : ∃ r76 : Int, r76 = IntKind.wrap .i64 (v49 + 1) := ⟨_, rfl⟩
          replace H := H r76 hr114
          refine L_val (v := .int .i64 r76) (y_add (ev_tv rfl rfl) ev_c hr114) ?_
          refine L_val (v := .int .i64 r76) (y_assign (ev_tv rfl rfl)) ?_
          refine l_nil ?_
          refine then_norm ?_
          obtain ⟨m77, hm115, H⟩ := H
          exact ⟨_, rfl, (by repeat (first | exact agree_refl | exact hag76 | refine agree_upd rfl ?_ | refine agree_via hag76 rfl ?_)), m77, hm115, _, rfl, H⟩
      · replace H := H.2 hb87
        have hq88 : Value.bool (decide ((v49 : Int) < ((x57l : Nat) : Int))) = Value.bool false := congrArg Value.bool (decide_eq_false hb87)
        refine cond_f (ev_tv rfl hq88) ?_
        refine c_exit ?_
        refine then_exit ?_
        refine then_exit ?_
        refine block_hit ?_
        refine then_norm ?_
        exact hK13 _ _ (by repeat (first | exact agree_refl | exact hag76 | refine agree_upd rfl ?_ | refine agree_via hag76 rfl ?_)) H
    · clear H
      intro f10 w11 hag11 HJ12
      have H := hJ9  w11 HJ12
      clear hJ9
      obtain ⟨J14, hJ15, H⟩ := H
      refine c_seqJ [(50, 78)] (fun ff ww => J14  ww) ?_ ?_
      · clear hJ15
        intro K19 hK19
        refine c_seq ?_
        intro K43 hK43
        refine D_start Try.mixed rfl [] ?_
        refine start_keep fun hS => ?_
        refine D_pure (i := 0) (v := .pointer a_t1) rfl (by kernel_rfl) (W_none rfl) (fun _ => y_move (ev_tv rfl ((hag11 0 rfl).trans rfl))) hS ?_
        intro hS
        obtain ⟨b29, o30, rfl, H⟩ := H
        refine D_pure (i := 1) (v := .pointer (some ⟨b29, o30, none⟩)) rfl (by kernel_rfl) (W_none rfl) (fun _ => y_nilCheck (ev_tv rfl rfl)) hS ?_
        intro hS
        refine D_pure (i := 2) (v := .pointer (some ⟨b29, o30 + 1, none⟩)) rfl (by kernel_rfl) (W_none rfl) (fun _ => Try.fa71_1 (ev_tv rfl rfl)) hS ?_
        intro hS
        refine D_pure (i := 4) (v := .int .i64 a_h2) rfl (by kernel_rfl) (W_none rfl) (fun _ => y_move (ev_tv rfl ((hag11 1 rfl).trans rfl))) hS ?_
        intro hS
        refine D_pure (i := 8) (v := .pointer (some ⟨b29, o30, none⟩)) rfl (by kernel_rfl) (W_none rfl) (fun _ => y_move (ev_tv rfl ((hag11 0 rfl).trans rfl))) hS ?_
        intro hS
        refine D_pure (i := 9) (v := .pointer (some ⟨b29, o30, none⟩)) rfl (by kernel_rfl) (W_none rfl) (fun _ => y_nilCheck (ev_tv rfl rfl)) hS ?_
        intro hS
        refine D_pure (i := 10) (v := .pointer (some ⟨b29, o30, none⟩)) rfl (by kernel_rfl) (W_none rfl) (fun _ => Try.fa71_0 (ev_tv rfl rfl)) hS ?_
        intro hS
        obtain ⟨x31, x31l, x31c, hc44, H⟩ := H
        refine D_read (i := 3) (v := .slice x31 x31l x31c) rfl (by kernel_rfl) (W_none rfl) (fun wx => World.cell? wx ⟨b29, o30 + 1, none⟩ = some (.slice x31 x31l x31c)) hc44 (fun _ hcx => y_load Try.underlying68 rfl (ev_tv rfl rfl) hcx) hS ?_
        intro hS
        obtain ⟨b32, o33, rfl, H⟩ := H
        obtain ⟨hi45, hi46, H⟩ := H
        refine D_pure (i := 5) (v := .pointer (some ⟨b32, o33 + (a_h2 : Int).toNat, none⟩)) rfl (by kernel_rfl) (W_none rfl) (fun _ => y_ix1 Try.underlying68 Try.type73 rfl (ev_tv rfl rfl) (ev_tv rfl rfl) hi45 hi46) hS ?_
        intro hS
        obtain ⟨x34, x34l, x34c, hc47, H⟩ := H
        refine D_read (i := 6) (v := .slice x34 x34l x34c) rfl (by kernel_rfl) (W_none rfl) (fun wx => World.cell? wx ⟨b32, o33 + (a_h2 : Int).toNat, none⟩ = some (.slice x34 x34l x34c)) hc47 (fun _ hcx => y_load Try.underlying73 rfl (ev_tv rfl rfl) hcx) hS ?_
        intro hS
        refine D_pure (i := 7) (v := .int .i64 ((x34l : Nat) : Int)) rfl (by kernel_rfl) (W_none rfl) (fun _ => y_len Try.underlying73 rfl (map_ev1 (ev_tv rfl rfl))) hS ?_
        intro hS
        obtain ⟨x35, hc48, H⟩ := H
        refine D_read (i := 11) (v := .int .i64 x35) rfl (by kernel_rfl) (W_none rfl) (fun wx => World.cell? wx ⟨b29, o30, none⟩ = some (.int .i64 x35)) hc48 (fun _ hcx => y_load Try.underlying3 rfl (ev_tv rfl rfl) hcx) hS ?_
        intro hS
        refine D_pure (i := 12) (v := .bool (decide ((x35 : Int) ≤ ((x34l : Nat) : Int)))) rfl (by kernel_rfl) (W_none rfl) (fun _ => y_geq (ev_tv rfl rfl) (ev_tv rfl rfl)) hS ?_
        intro hS
        refine D_done (by kernel_rfl) ?_
        refine then_norm ?_
        refine hK43 _ _ ?_
        clear hK43
        rcases (Decidable.em ((x35 : Int) ≤ ((x34l : Nat) : Int))) with hb49 | hb49
        · replace H := H.1 hb49
          have hq50 : Value.bool (decide ((x35 : Int) ≤ ((x34l : Nat) : Int))) = Value.bool true := congrArg Value.bool (decide_eq_true hb49)
          refine cond_t (ev_tv rfl hq50) ?_
          refine D_start Try.mixed rfl [5, 14, 16] ?_
          refine start_keep fun hS => ?_
          refine D_pure (i := 0) (v := .pointer (some ⟨b29, o30, none⟩)) rfl (by kernel_rfl) (W_none rfl) (fun _ => y_move (ev_tv rfl ((hag11 0 rfl).trans rfl))) hS ?_
          intro hS
          refine D_pure (i := 1) (v := .pointer (some ⟨b29, o30, none⟩)) rfl (by kernel_rfl) (W_none rfl) (fun _ => y_nilCheck (ev_tv rfl rfl)) hS ?_
          intro hS
          refine D_pure (i := 2) (v := .pointer (some ⟨b29, o30 + 1, none⟩)) rfl (by kernel_rfl) (W_none rfl) (fun _ => Try.fa71_1 (ev_tv rfl rfl)) hS ?_
          intro hS
          refine D_pure (i := 4) (v := .int .i64 a_h2) rfl (by kernel_rfl) (W_none rfl) (fun _ => y_move (ev_tv rfl ((hag11 1 rfl).trans rfl))) hS ?_
          intro hS
          refine D_pure (i := 6) (v := .pointer (some ⟨b29, o30, none⟩)) rfl (by kernel_rfl) (W_none rfl) (fun _ => y_move (ev_tv rfl ((hag11 0 rfl).trans rfl))) hS ?_
          intro hS
          refine D_pure (i := 7) (v := .pointer (some ⟨b29, o30, none⟩)) rfl (by kernel_rfl) (W_none rfl) (fun _ => y_nilCheck (ev_tv rfl rfl)) hS ?_
          intro hS
          refine D_pure (i := 8) (v := .pointer (some ⟨b29, o30 + 1, none⟩)) rfl (by kernel_rfl) (W_none rfl) (fun _ => Try.fa71_1 (ev_tv rfl rfl)) hS ?_
          intro hS
          refine D_pure (i := 10) (v := .int .i64 a_h2) rfl (by kernel_rfl) (W_none rfl) (fun _ => y_move (ev_tv rfl ((hag11 1 rfl).trans rfl))) hS ?_
          intro hS
          obtain ⟨x36, x36l, x36c, hc51, H⟩ := H
          refine D_read (i := 3) (v := .slice x36 x36l x36c) rfl (by kernel_rfl) (W_none rfl) (fun wx => World.cell? wx ⟨b29, o30 + 1, none⟩ = some (.slice x36 x36l x36c)) hc51 (fun _ hcx => y_load Try.underlying68 rfl (ev_tv rfl rfl) hcx) hS ?_
          intro hS
          obtain ⟨x37, x37l, x37c, hc52, H⟩ := H
          refine D_read (i := 9) (v := .slice x37 x37l x37c) rfl (by kernel_rfl) (W_none rfl) (fun wx => World.cell? wx ⟨b29, o30 + 1, none⟩ = some (.slice x37 x37l x37c)) hc52 (fun _ hcx => y_load Try.underlying68 rfl (ev_tv rfl rfl) hcx) hS ?_
          intro hS
          obtain ⟨b38, o39, rfl, H⟩ := H
          obtain ⟨hi53, hi54, H⟩ := H
          refine D_pure (i := 11) (v := .pointer (some ⟨b38, o39 + (a_h2 : Int).toNat, none⟩)) rfl (by kernel_rfl) (W_none rfl) (fun _ => y_ix1 Try.underlying68 Try.type73 rfl (ev_tv rfl rfl) (ev_tv rfl rfl) hi53 hi54) hS ?_
          intro hS
          obtain ⟨x40, x40l, x40c, hc55, H⟩ := H
          refine D_read (i := 12) (v := .slice x40 x40l x40c) rfl (by kernel_rfl) (W_none rfl) (fun wx => World.cell? wx ⟨b38, o39 + (a_h2 : Int).toNat, none⟩ = some (.slice x40 x40l x40c)) hc55 (fun _ hcx => y_load Try.underlying73 rfl (ev_tv rfl rfl) hcx) hS ?_
          intro hS
          obtain ⟨hi57, hi58, H⟩ := H
          obtain ⟨a41, ha56⟩ : ∃ a41 : Option Addr, a41 = subA x40 3 x40c (1 : Int).toNat := ⟨_, rfl⟩
          replace H := H a41 ha56
          refine D_pure (i := 13) (v := .slice a41 (x40l - (1 : Int).toNat) (x40c - (1 : Int).toNat)) rfl (by kernel_rfl) (W_none rfl) (fun _ => y_sliceL Try.underlying73 Try.type75 rfl (ev_tv rfl rfl) ev_c hi57 hi58 ha56) hS ?_
          intro hS
          refine D_only (i := 5) (by kernel_rfl) rfl ?_
          obtain ⟨b42, hb59⟩ : ∃ b42 : Nat, b42 = World.heapSize ((w11.drew).drew) := ⟨_, rfl⟩
          obtain ⟨w43, hw60⟩ : ∃ w43 : World, w43 = World.alloc ((w11.drew).drew) (.cells #[] 75) := ⟨_, rfl⟩
          replace H := H b42 w43 hb59 hw60
          refine O_val (i := 5) (v := .slice (some ⟨b42, 0, none⟩) 0 0) rfl (W_none rfl) (y_buildSlice rfl hb59 hw60 (by kernel_rfl)) ?_
          obtain ⟨hs70, hs71, hs72, H⟩ := H
          refine and_keep (SS_on hs70 (SS_on hs71 (SS_on hs72 SS_nil))) fun hS => ?_
          refine D_only (i := 14) (by kernel_rfl) rfl ?_
          obtain ⟨x45, x45l, x45c, w44, hc61, H⟩ := H
          refine O_val (i := 14) (v := .slice x45 x45l x45c) rfl (W_none rfl) (y_bi_append (map_ev2 (ev_tv rfl rfl) (ev_tv rfl rfl)) hc61) ?_
          obtain ⟨hs67, hs68, hs69, H⟩ := H
          refine and_keep (SS_on hs67 (SS_on hs68 (SS_on hs69 SS_nil))) fun hS => ?_
          obtain ⟨b46, o47, rfl, H⟩ := H
          obtain ⟨hi62, hi63, H⟩ := H
          refine D_pure (i := 15) (v := .pointer (some ⟨b46, o47 + (a_h2 : Int).toNat, none⟩)) rfl (by kernel_rfl) (W_none rfl) (fun _ => y_ix1 Try.underlying68 Try.type73 rfl (ev_tv rfl rfl) (ev_tv rfl rfl) hi62 hi63) hS ?_
          intro hS
          refine D_only (i := 16) (by kernel_rfl) rfl ?_
          obtain ⟨hc64, hf65, H⟩ := H
          obtain ⟨w48, hw66⟩ : ∃ w48 : World, w48 = World.setCell w44 ⟨b46, o47 + (a_h2 : Int).toNat, none⟩ (.slice x45 x45l x45c) := ⟨_, rfl⟩
          replace H := H w48 hw66
          refine O_skip (i := 16) rfl (W_none rfl) (y_store Try.type73 rfl rfl (ev_tv rfl rfl) (ev_tv rfl rfl) hc64 hf65 hw66) ?_
          refine and_keep (SS_off (by kernel_rfl) (SS_off (by kernel_rfl) (SS_off (by kernel_rfl) SS_nil))) fun hS => ?_
          refine D_done (by kernel_rfl) ?_
          refine then_norm ?_
          exact hK19 _ _ (by repeat (first | exact agree_refl | exact hag11 | refine agree_upd rfl ?_ | refine agree_via hag11 rfl ?_)) H
        · replace H := H.2 hb49
          have hq50 : Value.bool (decide ((x35 : Int) ≤ ((x34l : Nat) : Int))) = Value.bool false := congrArg Value.bool (decide_eq_false hb49)
          refine cond_f (ev_tv rfl hq50) ?_
          refine c_skip ?_
          refine then_norm ?_
          exact hK19 _ _ (by repeat (first | exact agree_refl | exact hag11 | refine agree_upd rfl ?_ | refine agree_via hag11 rfl ?_)) H
      · clear H
        intro f16 w12 hag17 HJ18
        have H := hJ15  w12 HJ18
        clear hJ15
        refine c_seq ?_
        intro K20 hK20
        refine D_start Try.mixed rfl [15, 16, 18] ?_
        refine start_keep fun hS => ?_
        refine D_pure (i := 0) (v := .pointer a_t1) rfl (by kernel_rfl) (W_none rfl) (fun _ => y_move (ev_tv rfl ((hag17 0 rfl).trans ((hag11 0 rfl).trans rfl)))) hS ?_
        intro hS
        obtain ⟨b13, o14, rfl, H⟩ := H
        refine D_pure (i := 1) (v := .pointer (some ⟨b13, o14, none⟩)) rfl (by kernel_rfl) (W_none rfl) (fun _ => y_nilCheck (ev_tv rfl rfl)) hS ?_
        intro hS
        refine D_pure (i := 2) (v := .pointer (some ⟨b13, o14 + 1, none⟩)) rfl (by kernel_rfl) (W_none rfl) (fun _ => Try.fa71_1 (ev_tv rfl rfl)) hS ?_
        intro hS
        refine D_pure (i := 4) (v := .int .i64 a_h2) rfl (by kernel_rfl) (W_none rfl) (fun _ => y_move (ev_tv rfl ((hag17 1 rfl).trans ((hag11 1 rfl).trans rfl)))) hS ?_
        intro hS
        refine D_pure (i := 5) (v := .pointer (some ⟨b13, o14, none⟩)) rfl (by kernel_rfl) (W_none rfl) (fun _ => y_move (ev_tv rfl ((hag17 0 rfl).trans ((hag11 0 rfl).trans rfl)))) hS ?_
        intro hS
        refine D_pure (i := 6) (v := .pointer (some ⟨b13, o14, none⟩)) rfl (by kernel_rfl) (W_none rfl) (fun _ => y_nilCheck (ev_tv rfl rfl)) hS ?_
        intro hS
        refine D_pure (i := 7) (v := .pointer (some ⟨b13, o14 + 1, none⟩)) rfl (by kernel_rfl) (W_none rfl) (fun _ => Try.fa71_1 (ev_tv rfl rfl)) hS ?_
        intro hS
        refine D_pure (i := 9) (v := .int .i64 a_h2) rfl (by kernel_rfl) (W_none rfl) (fun _ => y_move (ev_tv rfl ((hag17 1 rfl).trans ((hag11 1 rfl).trans rfl)))) hS ?_
        intro hS
        refine D_pure (i := 13) (v := .int .u32 a_entry5) rfl (by kernel_rfl) (W_none rfl) (fun _ => y_move (ev_tv rfl ((hag17 3 rfl).trans ((hag11 3 rfl).trans rfl)))) hS ?_
        intro hS
        obtain ⟨x15, x15l, x15c, hc21, H⟩ := H
        refine D_read (i := 3) (v := .slice x15 x15l x15c) rfl (by kernel_rfl) (W_none rfl) (fun wx => World.cell? wx ⟨b13, o14 + 1, none⟩ = some (.slice x15 x15l x15c)) hc21 (fun _ hcx => y_load Try.underlying68 rfl (ev_tv rfl rfl) hcx) hS ?_
        intro hS
        obtain ⟨x16, x16l, x16c, hc22, H⟩ := H
        refine D_read (i := 8) (v := .slice x16 x16l x16c) rfl (by kernel_rfl) (W_none rfl) (fun wx => World.cell? wx ⟨b13, o14 + 1, none⟩ = some (.slice x16 x16l x16c)) hc22 (fun _ hcx => y_load Try.underlying68 rfl (ev_tv rfl rfl) hcx) hS ?_
        intro hS
        obtain ⟨b17, o18, rfl, H⟩ := H
        obtain ⟨hi23, hi24, H⟩ := H
        refine D_pure (i := 10) (v := .pointer (some ⟨b17, o18 + (a_h2 : Int).toNat, none⟩)) rfl (by kernel_rfl) (W_none rfl) (fun _ => y_ix1 Try.underlying68 Try.type73 rfl (ev_tv rfl rfl) (ev_tv rfl rfl) hi23 hi24) hS ?_
        intro hS
        obtain ⟨x19, x19l, x19c, hc25, H⟩ := H
        refine D_read (i := 11) (v := .slice x19 x19l x19c) rfl (by kernel_rfl) (W_none rfl) (fun wx => World.cell? wx ⟨b17, o18 + (a_h2 : Int).toNat, none⟩ = some (.slice x19 x19l x19c)) hc25 (fun _ hcx => y_load Try.underlying73 rfl (ev_tv rfl rfl) hcx) hS ?_
        intro hS
        obtain ⟨x20, x21, hc26, H⟩ := H
        refine D_read (i := 12) (v := .agg #[.int .i64 x20, .int .i64 x21]) rfl (by kernel_rfl) (W_none rfl) (fun wx => CellsAt wx ⟨b6, 0, none⟩ [.int .i64 x20, .int .i64 x21]) hc26 (fun _ hcx => y_loadAgg Try.underlying31 rfl Try.type31 rfl (ev_tv rfl ((hag17 6 rfl).trans ((hag11 6 rfl).trans rfl))) hcx) hS ?_
        intro hS
        refine D_pure (i := 14) (v := .agg #[.int .i64 x20, .int .i64 x21, .int .u32 a_entry5]) rfl (by kernel_rfl) (W_none rfl) (fun _ => y_build (parts_ev2 (ev_tv rfl rfl) (ev_tv rfl rfl)) (by kernel_rfl)) hS ?_
        intro hS
        refine D_only (i := 15) (by kernel_rfl) rfl ?_
        obtain ⟨b22, hb27⟩ : ∃ b22 : Nat, b22 = World.heapSize (w12.drew) := ⟨_, rfl⟩
        obtain ⟨w23, hw28⟩ : ∃ w23 : World, w23 = World.alloc (w12.drew) (.cells #[.int .i64 x20, .int .i64 x21, .int .u32 a_entry5] 75) := ⟨_, rfl⟩
        replace H := H b22 w23 hb27 hw28
        refine O_val (i := 15) (v := .slice (some ⟨b22, 0, none⟩) 1 1) rfl (W_none rfl) (y_buildSlice (parts_ev1 (ev_tv rfl rfl)) hb27 hw28 (by kernel_rfl)) ?_
        obtain ⟨hs39, hs40, hs41, hs42, H⟩ := H
        refine and_keep (SS_on hs39 (SS_on hs40 (SS_on hs41 (SS_on hs42 SS_nil)))) fun hS => ?_
        refine D_only (i := 16) (by kernel_rfl) rfl ?_
        obtain ⟨x25, x25l, x25c, w24, hc29, H⟩ := H
        refine O_val (i := 16) (v := .slice x25 x25l x25c) rfl (W_none rfl) (y_bi_append (map_ev2 (ev_tv rfl rfl) (ev_tv rfl rfl)) hc29) ?_
        obtain ⟨hs36, hs37, hs38, H⟩ := H
        refine and_keep (SS_on hs36 (SS_off (by kernel_rfl) (SS_on hs37 (SS_on hs38 SS_nil)))) fun hS => ?_
        obtain ⟨b26, o27, rfl, H⟩ := H
        obtain ⟨hi30, hi31, H⟩ := H
        refine D_pure (i := 17) (v := .pointer (some ⟨b26, o27 + (a_h2 : Int).toNat, none⟩)) rfl (by kernel_rfl) (W_none rfl) (fun _ => y_ix1 Try.underlying68 Try.type73 rfl (ev_tv rfl rfl) (ev_tv rfl rfl) hi30 hi31) hS ?_
        intro hS
        refine D_only (i := 18) (by kernel_rfl) rfl ?_
        obtain ⟨hc32, hf33, H⟩ := H
        obtain ⟨w28, hw34⟩ : ∃ w28 : World, w28 = World.setCell w24 ⟨b26, o27 + (a_h2 : Int).toNat, none⟩ (.slice x25 x25l x25c) := ⟨_, rfl⟩
        replace H := H w28 hw34
        refine O_skip (i := 18) rfl (W_none rfl) (y_store Try.type73 rfl rfl (ev_tv rfl rfl) (ev_tv rfl rfl) hc32 hf33 hw34) ?_
        refine and_keep (SS_off (by kernel_rfl) (SS_off (by kernel_rfl) (SS_off (by kernel_rfl) (SS_off (by kernel_rfl) SS_nil)))) fun hS => ?_
        refine D_done (by kernel_rfl) ?_
        refine then_norm ?_
        refine hK20 _ _ ?_
        clear hK20
        refine c_seq ?_
        intro K35 hK35
        refine c_region ?_
        refine L_val (v := .int .i64 0) (y_assign ev_c) ?_
        refine l_nil ?_
        refine then_norm ?_
        refine hK35 _ _ ?_
        clear hK35
        refine c_ret ?_
        exact body_1 rfl (ev_tv rfl rfl) H
  · replace H := H.2 hb6
    have hq7 : Value.bool (x8) = Value.bool false := congrArg Value.bool hb6
    refine L_val (v := .bool true) (y_not_f (ev_tv rfl hq7)) ?_
    refine l_nil ?_
    refine then_norm ?_
    refine hK5 _ _ ?_
    clear hK5
    refine cond_t (ev_tv rfl rfl) ?_
    refine c_seq ?_
    intro K116 hK116
    refine c_region ?_
    refine L_val (v := .int .i64 1) (y_assign ev_c) ?_
    refine l_nil ?_
    refine then_norm ?_
    refine hK116 _ _ ?_
    clear hK116
    refine c_ret ?_
    refine then_ret ?_
    exact body_1 rfl (ev_tv rfl rfl) H

/-- (parapet/parapetref07.Tlb).Flush -/
def Vc27 (a_t1 : Option Addr) (a_h2 : Int) (a_space3 : Int) (w : World) (R : Ending → World → Prop) : Prop :=
  (Calls Try.prog 41 #[.pointer a_t1, .int .i64 a_h2] w fun e w5 => ∃ x4 : Bool, e = .returned (.bool x4) ∧ (((x4 = true) → (∃ J7 : Option Addr → Nat → Nat → World → Prop, (∀ (v7 : Option Addr) (v7l : Nat) (v7c : Nat) (w8 : World), J7 v7 v7l v7c w8 → (∃ (b9 o10 : Nat), a_t1 = some ⟨b9, o10, none⟩ ∧ (∃ x11 : Option Addr, ∃ x11l : Nat, ∃ x11c : Nat, World.cell? w8 ⟨b9, o10 + 1, none⟩ = some (.slice x11 x11l x11c) ∧ (∃ (b12 o13 : Nat), x11 = some ⟨b12, o13, none⟩ ∧ ((0 : Int) ≤ a_h2 ∧ a_h2 < ((x11l : Nat) : Int) ∧ (∃ x14 : Option Addr, ∃ x14l : Nat, ∃ x14c : Nat, World.cell? w8 ⟨b12, o13 + (a_h2 : Int).toNat, none⟩ = some (.slice x14 x14l x14c) ∧ (∀ r15 : Int, r15 = IntKind.wrap .i64 (((x14l : Nat) : Int) - ((v7l : Nat) : Int)) → (∃ x16 : Option Addr, ∃ x16l : Nat, ∃ x16c : Nat, World.cell? w8 ⟨b9, o10 + 1, none⟩ = some (.slice x16 x16l x16c) ∧ (∃ (b17 o18 : Nat), x16 = some ⟨b17, o18, none⟩ ∧ ((0 : Int) ≤ a_h2 ∧ a_h2 < ((x16l : Nat) : Int) ∧ ((World.cell? w8 ⟨b17, o18 + (a_h2 : Int).toNat, none⟩).isSome = true ∧ World.frozen? w8 ⟨b17, o18 + (a_h2 : Int).toNat, none⟩ = false ∧ ∀ w19 : World, w19 = World.setCell w8 ⟨b17, o18 + (a_h2 : Int).toNat, none⟩ (.slice v7 v7l v7c) → R (.returned (.int .i64 r15)) w19))))))))))) ∧ (∃ I29 : Nat → Option Addr → Nat → Nat → Int → World → Prop, (∃ m, I29 m none 0 0 0 w5) ∧ ∀ (m22 : Nat) (v20 : Option Addr) (v20l : Nat) (v20c : Nat) (v21 : Int) (w23 : World), I29 m22 v20 v20l v20c v21 w23 → (∃ (b24 o25 : Nat), a_t1 = some ⟨b24, o25, none⟩ ∧ (∃ x26 : Option Addr, ∃ x26l : Nat, ∃ x26c : Nat, World.cell? w23 ⟨b24, o25 + 1, none⟩ = some (.slice x26 x26l x26c) ∧ (∃ (b27 o28 : Nat), x26 = some ⟨b27, o28, none⟩ ∧ ((0 : Int) ≤ a_h2 ∧ a_h2 < ((x26l : Nat) : Int) ∧ (∃ x29 : Option Addr, ∃ x29l : Nat, ∃ x29c : Nat, World.cell? w23 ⟨b27, o28 + (a_h2 : Int).toNat, none⟩ = some (.slice x29 x29l x29c) ∧ ((((v21 : Int) < ((x29l : Nat) : Int)) → (∃ x30 : Option Addr, ∃ x30l : Nat, ∃ x30c : Nat, World.cell? w23 ⟨b24, o25 + 1, none⟩ = some (.slice x30 x30l x30c) ∧ (∃ (b31 o32 : Nat), x30 = some ⟨b31, o32, none⟩ ∧ ((0 : Int) ≤ a_h2 ∧ a_h2 < ((x30l : Nat) : Int) ∧ (∃ x33 : Option Addr, ∃ x33l : Nat, ∃ x33c : Nat, World.cell? w23 ⟨b31, o32 + (a_h2 : Int).toNat, none⟩ = some (.slice x33 x33l x33c) ∧ (∃ (b34 o35 : Nat), x33 = some ⟨b34, o35, none⟩ ∧ ((0 : Int) ≤ v21 ∧ v21 < ((x33l : Nat) : Int) ∧ (∃ x36 : Int, World.cell? w23 ⟨b34, o35 + (v21 : Int).toNat * 3, none⟩ = some (.int .i64 x36) ∧ (((¬ ((x36 : Int) = a_space3)) → (∃ x37 : Option Addr, ∃ x37l : Nat, ∃ x37c : Nat, World.cell? w23 ⟨b24, o25 + 1, none⟩ = some (.slice x37 x37l x37c) ∧ (∃ (b38 o39 : Nat), x37 = some ⟨b38, o39, none⟩ ∧ ((0 : Int) ≤ a_h2 ∧ a_h2 < ((x37l : Nat) : Int) ∧ (∃ x40 : Option Addr, ∃ x40l : Nat, ∃ x40c : Nat, World.cell? w23 ⟨b38, o39 + (a_h2 : Int).toNat, none⟩ = some (.slice x40 x40l x40c) ∧ (∃ (b41 o42 : Nat), x40 = some ⟨b41, o42, none⟩ ∧ ((0 : Int) ≤ v21 ∧ v21 < ((x40l : Nat) : Int) ∧ (∃ x43 : Int, ∃ x44 : Int, ∃ x45 : Int, CellsAt w23 ⟨b41, o42 + (v21 : Int).toNat * 3, none⟩ [.int .i64 x43, .int .i64 x44, .int .u32 x45] ∧ (∀ (b46 : Nat) (w47 : World), b46 = World.heapSize w23 → w47 = World.alloc w23 (.cells #[.int .i64 x43, .int .i64 x44, .int .u32 x45] 75) → (∃ x49 : Option Addr, ∃ x49l : Nat, ∃ x49c : Nat, ∃ w48 : World, (Builtin.append_ #[73, 73] 73 #[.slice v20 v20l v20c, .slice (some ⟨b46, 0, none⟩) 1 1]).run Try.prog w47 = .ok (.slice x49 x49l x49c) w48 ∧ (∀ r50 : Int, r50 = IntKind.wrap .i64 (v21 + 1) → (∃ m51, m51 < m22 ∧ I29 m51 x49 x49l x49c r50 w48)))))))))))) ∧ (((x36 : Int) = a_space3) → (∀ r52 : Int, r52 = IntKind.wrap .i64 (v21 + 1) → (∃ m53, m53 < m22 ∧ I29 m53 v20 v20l v20c r52 w23)))))))))))) ∧ ((¬ ((v21 : Int) < ((x29l : Nat) : Int))) → J7 v20 v20l v20c w23)))))))))) ∧ ((x4 = false) → R (.returned (.int .i64 0)) w5)))

theorem vc27 {a_t1 : Option Addr} {a_h2 : Int} {a_space3 : Int} {w : World} {R : Ending → World → Prop} (H : Vc27 a_t1 a_h2 a_space3 w R) : Calls Try.prog 27 #[.pointer a_t1, .int .i64 a_h2, .int .i64 a_space3] w R := by
  unfold Vc27 at H
  refine calls_start [.pointer a_t1, .int .i64 a_h2, .int .i64 a_space3] Try.func27 rfl Try.ntmps27 rfl ?_
  refine c_seq ?_
  intro K1 hK1
  refine c_region ?_
  refine L_val (v := .int .i64 0) (y_assign ev_c) ?_
  refine l_nil ?_
  refine then_norm ?_
  refine hK1 _ _ ?_
  clear hK1
  refine c_seq ?_
  intro K2 hK2
  refine c_seq ?_
  intro K3 hK3
  refine c_region ?_
  refine L_val (v := .pointer a_t1) (y_move (ev_tv rfl rfl)) ?_
  refine L_val (v := .int .i64 a_h2) (y_move (ev_tv rfl rfl)) ?_
  refine L_call (y_call Try.call41 (map_ev2 (ev_tv rfl rfl) (ev_tv rfl rfl)) ev_f) (Calls.mono H ?_)
  clear H
  rintro _ w5 ⟨x4, rfl, H⟩
  refine ⟨_, rfl, ?_⟩
  rcases Bool.eq_false_or_eq_true x4 with hb4 | hb4
  · replace H := H.1 hb4
    have hq5 : Value.bool (x4) = Value.bool true := congrArg Value.bool hb4
    refine L_val (v := .bool false) (y_not_t (ev_tv rfl hq5)) ?_
    refine l_nil ?_
    refine then_norm ?_
    refine hK3 _ _ ?_
    clear hK3
    refine cond_f (ev_tv rfl rfl) ?_
    refine c_skip ?_
    refine then_norm ?_
    refine hK2 _ _ ?_
    clear hK2
    refine c_seq ?_
    intro K6 hK6
    refine c_region ?_
    refine L_val (v := .slice none 0 0) (y_assign ev_c) ?_
    refine l_nil ?_
    refine then_norm ?_
    refine hK6 _ _ ?_
    clear hK6
    obtain ⟨J7, hJ8, H⟩ := H
    refine c_seqJ [(7, 8), (14, 52)] (fun ff ww => ∃ (v7 : Option Addr) (v7l : Nat) (v7c : Nat), ff 7 = (.slice v7 v7l v7c : Value) ∧ J7 v7 v7l v7c ww) ?_ ?_
    · clear hJ8
      intro K12 hK12
      refine c_seq ?_
      intro K28 hK28
      refine c_region ?_
      refine L_val (v := .int .i64 0) (y_assign ev_c) ?_
      refine l_nil ?_
      refine then_norm ?_
      refine hK28 _ _ ?_
      clear hK28
      refine c_block ?_
      obtain ⟨I29, ⟨m33, HI34⟩, H⟩ := H
      refine loop_fr ([(7, 8), (14, 52)]) (fun m ff ww => ∃ (v20 : Option Addr) (v20l : Nat) (v20c : Nat) (v21 : Int), ff 7 = (.slice v20 v20l v20c : Value) ∧ ff 8 = (.int .i64 v21 : Value) ∧ I29 m v20 v20l v20c v21 ww) m33 ⟨none, 0, 0, 0, rfl, rfl, HI34⟩ ?_
      rintro m22 f30 w23 hag31 ⟨v20, v20l, v20c, v21, hs35, hs36, HI32⟩
      replace H := H m22 v20 v20l v20c v21 w23 HI32
      refine c_seq ?_
      intro K37 hK37
      refine c_seq ?_
      intro K38 hK38
      refine c_region ?_
      refine L_val (v := .int .i64 v21) (y_move (ev_tv rfl hs36)) ?_
      refine L_val (v := .pointer a_t1) (y_move (ev_tv rfl ((hag31 0 rfl).trans rfl))) ?_
      obtain ⟨b24, o25, rfl, H⟩ := H
      refine L_val (v := .pointer (some ⟨b24, o25, none⟩)) (y_nilCheck (ev_tv rfl rfl)) ?_
      refine L_val (v := .pointer (some ⟨b24, o25 + 1, none⟩)) (Try.fa71_1 (ev_tv rfl rfl)) ?_
      obtain ⟨x26, x26l, x26c, hc39, H⟩ := H
      refine L_val (v := .slice x26 x26l x26c) (y_load Try.underlying68 rfl (ev_tv rfl rfl) hc39) ?_
      refine L_val (v := .int .i64 a_h2) (y_move (ev_tv rfl ((hag31 1 rfl).trans rfl))) ?_
      obtain ⟨b27, o28, rfl, H⟩ := H
      obtain ⟨hi40, hi41, H⟩ := H
      refine L_val (v := .pointer (some ⟨b27, o28 + (a_h2 : Int).toNat, none⟩)) (y_ix1 Try.underlying68 Try.type73 rfl (ev_tv rfl rfl) (ev_tv rfl rfl) hi40 hi41) ?_
      obtain ⟨x29, x29l, x29c, hc42, H⟩ := H
      refine L_val (v := .slice x29 x29l x29c) (y_load Try.underlying73 rfl (ev_tv rfl rfl) hc42) ?_
      refine L_val (v := .int .i64 ((x29l : Nat) : Int)) (y_len Try.underlying73 rfl (map_ev1 (ev_tv rfl rfl))) ?_
      refine L_val (v := .bool (decide ((v21 : Int) < ((x29l : Nat) : Int)))) (y_lss (ev_tv rfl rfl) (ev_tv rfl rfl)) ?_
      refine l_nil ?_
      refine then_norm ?_
      refine hK38 _ _ ?_
      clear hK38
      rcases (Decidable.em ((v21 : Int) < ((x29l : Nat) : Int))) with hb43 | hb43
      · replace H := H.1 hb43
        have hq44 : Value.bool (decide ((v21 : Int) < ((x29l : Nat) : Int))) = Value.bool true := congrArg Value.bool (decide_eq_true hb43)
        refine cond_t (ev_tv rfl hq44) ?_
        refine c_skip ?_
        refine then_norm ?_
        refine hK37 _ _ ?_
        clear hK37
        refine c_seq ?_
        intro K45 hK45
        refine c_block ?_
        refine c_seq ?_
        intro K46 hK46
        refine c_region ?_
        refine L_val (v := .pointer (some ⟨b24, o25, none⟩)) (y_move (ev_tv rfl ((hag31 0 rfl).trans rfl))) ?_
        refine L_val (v := .pointer (some ⟨b24, o25, none⟩)) (y_nilCheck (ev_tv rfl rfl)) ?_
        refine L_val (v := .pointer (some ⟨b24, o25 + 1, none⟩)) (Try.fa71_1 (ev_tv rfl rfl)) ?_
        obtain ⟨x30, x30l, x30c, hc47, H⟩ := H
        refine L_val (v := .slice x30 x30l x30c) (y_load Try.underlying68 rfl (ev_tv rfl rfl) hc47) ?_
        refine L_val (v := .int .i64 a_h2) (y_move (ev_tv rfl ((hag31 1 rfl).trans rfl))) ?_
        obtain ⟨b31, o32, rfl, H⟩ := H
        obtain ⟨hi48, hi49, H⟩ := H
        refine L_val (v := .pointer (some ⟨b31, o32 + (a_h2 : Int).toNat, none⟩)) (y_ix1 Try.underlying68 Try.type73 rfl (ev_tv rfl rfl) (ev_tv rfl rfl) hi48 hi49) ?_
        obtain ⟨x33, x33l, x33c, hc50, H⟩ := H
        refine L_val (v := .slice x33 x33l x33c) (y_load Try.underlying73 rfl (ev_tv rfl rfl) hc50) ?_
        refine L_val (v := .int .i64 v21) (y_move (ev_tv rfl hs36)) ?_
        obtain ⟨b34, o35, rfl, H⟩ := H
        obtain ⟨hi51, hi52, H⟩ := H
        refine L_val (v := .pointer (some ⟨b34, o35 + (v21 : Int).toNat * 3, none⟩)) (y_ix Try.underlying73 Try.type75 rfl (ev_tv rfl rfl) (ev_tv rfl rfl) hi51 hi52) ?_
        refine L_val (v := .pointer (some ⟨b34, o35 + (v21 : Int).toNat * 3, none⟩)) (Try.fa75_0 (ev_tv rfl rfl)) ?_
        refine L_val (v := .pointer (some ⟨b34, o35 + (v21 : Int).toNat * 3, none⟩)) (Try.fa31_0 (ev_tv rfl rfl)) ?_
        obtain ⟨x36, hc53, H⟩ := H
        refine L_val (v := .int .i64 x36) (y_load Try.underlying3 rfl (ev_tv rfl rfl) hc53) ?_
        refine L_val (v := .int .i64 a_space3) (y_move (ev_tv rfl ((hag31 2 rfl).trans rfl))) ?_
        refine L_val (v := .bool (!decide ((x36 : Int) = a_space3))) (y_ine (ev_tv rfl rfl) (ev_tv rfl rfl)) ?_
        refine l_nil ?_
        refine then_norm ?_
        refine hK46 _ _ ?_
        clear hK46
        rcases (Decidable.em ((x36 : Int) = a_space3)).symm with hb54 | hb54
        · replace H := H.1 hb54
          have hq55 : Value.bool (!decide ((x36 : Int) = a_space3)) = Value.bool true := congrArg Value.bool (ndec_t hb54)
          refine cond_t (ev_tv rfl hq55) ?_
          refine c_region ?_
          refine L_val (v := .slice v20 v20l v20c) (y_move (ev_tv rfl hs35)) ?_
          refine L_val (v := .pointer (some ⟨b24, o25, none⟩)) (y_move (ev_tv rfl ((hag31 0 rfl).trans rfl))) ?_
          refine L_val (v := .pointer (some ⟨b24, o25, none⟩)) (y_nilCheck (ev_tv rfl rfl)) ?_
          refine L_val (v := .pointer (some ⟨b24, o25 + 1, none⟩)) (Try.fa71_1 (ev_tv rfl rfl)) ?_
          obtain ⟨x37, x37l, x37c, hc56, H⟩ := H
          refine L_val (v := .slice x37 x37l x37c) (y_load Try.underlying68 rfl (ev_tv rfl rfl) hc56) ?_
          refine L_val (v := .int .i64 a_h2) (y_move (ev_tv rfl ((hag31 1 rfl).trans rfl))) ?_
          obtain ⟨b38, o39, rfl, H⟩ := H
          obtain ⟨hi57, hi58, H⟩ := H
          refine L_val (v := .pointer (some ⟨b38, o39 + (a_h2 : Int).toNat, none⟩)) (y_ix1 Try.underlying68 Try.type73 rfl (ev_tv rfl rfl) (ev_tv rfl rfl) hi57 hi58) ?_
          obtain ⟨x40, x40l, x40c, hc59, H⟩ := H
          refine L_val (v := .slice x40 x40l x40c) (y_load Try.underlying73 rfl (ev_tv rfl rfl) hc59) ?_
          refine L_val (v := .int .i64 v21) (y_move (ev_tv rfl hs36)) ?_
          obtain ⟨b41, o42, rfl, H⟩ := H
          obtain ⟨hi60, hi61, H⟩ := H
          refine L_val (v := .pointer (some ⟨b41, o42 + (v21 : Int).toNat * 3, none⟩)) (y_ix Try.underlying73 Try.type75 rfl (ev_tv rfl rfl) (ev_tv rfl rfl) hi60 hi61) ?_
          obtain ⟨x43, x44, x45, hc62, H⟩ := H
          refine L_val (v := .agg #[.int .i64 x43, .int .i64 x44, .int .u32 x45]) (y_loadAgg Try.underlying75 rfl Try.type75 rfl (ev_tv rfl rfl) hc62) ?_
          obtain ⟨b46, hb63⟩ : ∃ b46 : Nat, b46 = World.heapSize w23 := ⟨_, rfl⟩
          obtain ⟨w47, hw64⟩ : ∃ w47 : World, w47 = World.alloc w23 (.cells #[.int .i64 x43, .int .i64 x44, .int .u32 x45] 75) := ⟨_, rfl⟩
          replace H := H b46 w47 hb63 hw64
          refine L_val (v := .slice (some ⟨b46, 0, none⟩) 1 1) (y_buildSlice (parts_ev1 (ev_tv rfl rfl)) hb63 hw64 (by kernel_rfl)) ?_
          obtain ⟨x49, x49l, x49c, w48, hc65, H⟩ := H
          refine L_val (v := .slice x49 x49l x49c) (y_bi_append (map_ev2 (ev_tv rfl rfl) (ev_tv rfl rfl)) hc65) ?_
          refine L_val (v := .slice x49 x49l x49c) (y_assign (ev_tv rfl rfl)) ?_
          refine l_nil ?_
          refine block_norm ?_
          refine then_norm ?_
          refine hK45 _ _ ?_
          clear hK45
          refine c_region ?_
          refine L_val (v := .int .i64 v21) (y_move (ev_tv rfl hs36)) ?_
          obtain ⟨r50, hr66⟩ : ∃ r50 : Int, r50 = IntKind.wrap .i64 (v21 + 1) := ⟨_, rfl⟩
          replace H := H r50 hr66
          refine L_val (v := .int .i64 r50) (y_add (ev_tv rfl rfl) ev_c hr66) ?_
          refine L_val (v := .int .i64 r50) (y_assign (ev_tv rfl rfl)) ?_
          refine l_nil ?_
          refine then_norm ?_
          obtain ⟨m51, hm67, H⟩ := H
          exact ⟨_, rfl, (by repeat (first | exact agree_refl | exact hag31 | refine agree_upd rfl ?_ | refine agree_via hag31 rfl ?_)), m51, hm67, _, _, _, _, rfl, rfl, H⟩
        · replace H := H.2 hb54
          have hq55 : Value.bool (!decide ((x36 : Int) = a_space3)) = Value.bool false := congrArg Value.bool (ndec_f hb54)
          refine cond_f (ev_tv rfl hq55) ?_
          refine c_skip ?_
          refine block_norm ?_
          refine then_norm ?_
          refine hK45 _ _ ?_
          clear hK45
          refine c_region ?_
          refine L_val (v := .int .i64 v21) (y_move (ev_tv rfl hs36)) ?_
          obtain ⟨r52, hr68⟩ : ∃ r52 : Int, r52 = IntKind.wrap .i64 (v21 + 1) := ⟨_, rfl⟩
          replace H := H r52 hr68
          refine L_val (v := .int .i64 r52) (y_add (ev_tv rfl rfl) ev_c hr68) ?_
          refine L_val (v := .int .i64 r52) (y_assign (ev_tv rfl rfl)) ?_
          refine l_nil ?_
          refine then_norm ?_
          obtain ⟨m53, hm69, H⟩ := H
          exact ⟨_, rfl, (by repeat (first | exact agree_refl | exact hag31 | refine agree_upd rfl ?_ | refine agree_via hag31 rfl ?_)), m53, hm69, _, _, _, _, hs35, rfl, H⟩
      · replace H := H.2 hb43
        have hq44 : Value.bool (decide ((v21 : Int) < ((x29l : Nat) : Int))) = Value.bool false := congrArg Value.bool (decide_eq_false hb43)
        refine cond_f (ev_tv rfl hq44) ?_
        refine c_exit ?_
        refine then_exit ?_
        refine then_exit ?_
        refine block_hit ?_
        refine then_norm ?_
        exact hK12 _ _ (by repeat (first | exact agree_refl | exact hag31 | refine agree_upd rfl ?_ | refine agree_via hag31 rfl ?_)) ⟨_, _, _, hs35, H⟩
    · clear H
      rintro f9 w8 hag10 ⟨v7, v7l, v7c, hs13, HJ11⟩
      have H := hJ8 v7 v7l v7c w8 HJ11
      clear hJ8
      refine c_seq ?_
      intro K14 hK14
      refine c_region ?_
      refine L_val (v := .pointer a_t1) (y_move (ev_tv rfl ((hag10 0 rfl).trans rfl))) ?_
      obtain ⟨b9, o10, rfl, H⟩ := H
      refine L_val (v := .pointer (some ⟨b9, o10, none⟩)) (y_nilCheck (ev_tv rfl rfl)) ?_
      refine L_val (v := .pointer (some ⟨b9, o10 + 1, none⟩)) (Try.fa71_1 (ev_tv rfl rfl)) ?_
      obtain ⟨x11, x11l, x11c, hc15, H⟩ := H
      refine L_val (v := .slice x11 x11l x11c) (y_load Try.underlying68 rfl (ev_tv rfl rfl) hc15) ?_
      refine L_val (v := .int .i64 a_h2) (y_move (ev_tv rfl ((hag10 1 rfl).trans rfl))) ?_
      obtain ⟨b12, o13, rfl, H⟩ := H
      obtain ⟨hi16, hi17, H⟩ := H
      refine L_val (v := .pointer (some ⟨b12, o13 + (a_h2 : Int).toNat, none⟩)) (y_ix1 Try.underlying68 Try.type73 rfl (ev_tv rfl rfl) (ev_tv rfl rfl) hi16 hi17) ?_
      obtain ⟨x14, x14l, x14c, hc18, H⟩ := H
      refine L_val (v := .slice x14 x14l x14c) (y_load Try.underlying73 rfl (ev_tv rfl rfl) hc18) ?_
      refine L_val (v := .int .i64 ((x14l : Nat) : Int)) (y_len Try.underlying73 rfl (map_ev1 (ev_tv rfl rfl))) ?_
      refine L_val (v := .slice v7 v7l v7c) (y_move (ev_tv rfl hs13)) ?_
      refine L_val (v := .int .i64 ((v7l : Nat) : Int)) (y_len Try.underlying73 rfl (map_ev1 (ev_tv rfl rfl))) ?_
      obtain ⟨r15, hr19⟩ : ∃ r15 : Int, r15 = IntKind.wrap .i64 (((x14l : Nat) : Int) - ((v7l : Nat) : Int)) := ⟨_, rfl⟩
      replace H := H r15 hr19
      refine L_val (v := .int .i64 r15) (y_sub (ev_tv rfl rfl) (ev_tv rfl rfl) hr19) ?_
      refine L_val (v := .int .i64 r15) (y_assign (ev_tv rfl rfl)) ?_
      refine l_nil ?_
      refine then_norm ?_
      refine hK14 _ _ ?_
      clear hK14
      refine c_seq ?_
      intro K20 hK20
      refine c_region ?_
      refine L_val (v := .pointer (some ⟨b9, o10, none⟩)) (y_move (ev_tv rfl ((hag10 0 rfl).trans rfl))) ?_
      refine L_val (v := .pointer (some ⟨b9, o10, none⟩)) (y_nilCheck (ev_tv rfl rfl)) ?_
      refine L_val (v := .pointer (some ⟨b9, o10 + 1, none⟩)) (Try.fa71_1 (ev_tv rfl rfl)) ?_
      obtain ⟨x16, x16l, x16c, hc21, H⟩ := H
      refine L_val (v := .slice x16 x16l x16c) (y_load Try.underlying68 rfl (ev_tv rfl rfl) hc21) ?_
      refine L_val (v := .int .i64 a_h2) (y_move (ev_tv rfl ((hag10 1 rfl).trans rfl))) ?_
      refine L_val (v := .slice v7 v7l v7c) (y_move (ev_tv rfl hs13)) ?_
      obtain ⟨b17, o18, rfl, H⟩ := H
      obtain ⟨hi22, hi23, H⟩ := H
      refine L_val (v := .pointer (some ⟨b17, o18 + (a_h2 : Int).toNat, none⟩)) (y_ix1 Try.underlying68 Try.type73 rfl (ev_tv rfl rfl) (ev_tv rfl rfl) hi22 hi23) ?_
      obtain ⟨hc24, hf25, H⟩ := H
      obtain ⟨w19, hw26⟩ : ∃ w19 : World, w19 = World.setCell w8 ⟨b17, o18 + (a_h2 : Int).toNat, none⟩ (.slice v7 v7l v7c) := ⟨_, rfl⟩
      replace H := H w19 hw26
      refine L_skip (y_store Try.type73 rfl rfl (ev_tv rfl rfl) (ev_tv rfl rfl) hc24 hf25 hw26) ?_
      refine l_nil ?_
      refine then_norm ?_
      refine hK20 _ _ ?_
      clear hK20
      refine c_seq ?_
      intro K27 hK27
      refine c_region ?_
      refine L_val (v := .int .i64 r15) (y_move (ev_tv rfl rfl)) ?_
      refine L_val (v := .int .i64 r15) (y_assign (ev_tv rfl rfl)) ?_
      refine l_nil ?_
      refine then_norm ?_
      refine hK27 _ _ ?_
      clear hK27
      refine c_ret ?_
      exact body_1 rfl (ev_tv rfl rfl) H
  · replace H := H.2 hb4
    have hq5 : Value.bool (x4) = Value.bool false := congrArg Value.bool hb4
    refine L_val (v := .bool true) (y_not_f (ev_tv rfl hq5)) ?_
    refine l_nil ?_
    refine then_norm ?_
    refine hK3 _ _ ?_
    clear hK3
    refine cond_t (ev_tv rfl rfl) ?_
    refine c_seq ?_
    intro K70 hK70
    refine c_region ?_
    refine L_val (v := .int .i64 0) (y_assign ev_c) ?_
    refine l_nil ?_
    refine then_norm ?_
    refine hK70 _ _ ?_
    clear hK70
    refine c_ret ?_
    refine then_ret ?_
    exact body_1 rfl (ev_tv rfl rfl) H

end Go.Proofs.Ytdhdbdpemejpjaa
