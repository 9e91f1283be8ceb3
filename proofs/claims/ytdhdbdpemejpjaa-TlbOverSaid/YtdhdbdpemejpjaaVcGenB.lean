/- For each Go function: what must be shown of it, and that this is enough. Printed by a program over the seat's translation. -/
import Derived.Test.YtdhdbdpemejpjaaVcGenA
namespace Go.Proofs.Ytdhdbdpemejpjaa
open Go Go.Vc
set_option maxRecDepth 100000
set_option linter.unusedVariables false
set_option maxHeartbeats 2000000

/-- (parapet/tlb.Tlb).Pending -/
def Vc11 (a_t1 : Option Addr) (a_h2 : Int) (w : World) (R : Ending → World → Prop) : Prop :=
  (Calls Try.prog 20 #[.pointer a_t1, .int .i64 a_h2] w fun e w4 => ∃ x3 : Bool, e = .returned (.bool x3) ∧ (((x3 = true) → (∃ (b6 o7 : Nat), a_t1 = some ⟨b6, o7, none⟩ ∧ (∃ x8 : Option Nat, World.cell? w4 ⟨b6, o7 + 3, none⟩ = some (.map x8) ∧ (∃ x10 : Option Addr, ∃ w9 : World, (Instr.range 54 (.map x8)).run Try.prog w4 = .ok (.pointer x10) w9 ∧ (∃ I11 : Nat → Option Addr → Nat → Nat → World → Prop, (∃ m, I11 m none 0 0 w9) ∧ ∀ (m12 : Nat) (v11 : Option Addr) (v11l : Nat) (v11c : Nat) (w13 : World), I11 m12 v11 v11l v11c w13 → (∃ nb14 : Bool, ∃ nv15 : Value, ∃ w16 : World, (Instr.next (.pointer x10) false 0).run Try.prog w13 = .ok nv15 w16 ∧ (∀ w' : World, (Instr.extract nv15 0).run Try.prog w' = .ok (.bool nb14) w') ∧ (((nb14 = true) → (∃ x17 : Int, ∃ x18 : Int, ∃ x19 : Bool, ∃ x20 : Bool, ∃ x21 : Bool, ∃ x22 : Bool, ∃ x23 : Bool, ∃ x24 : Bool, ∃ x25 : Bool, ∃ x26 : Bool, (Instr.entry (.pointer x10)).run Try.prog w16 = .ok (.tuple #[.int .i64 x17, .agg #[.int .i64 x18, .bool x19, .bool x20, .bool x21, .bool x22, .bool x23, .bool x24, .bool x25, .bool x26]]) w16 ∧ (∀ (b27 : Nat) (w28 : World), b27 = World.heapSize w16 → w28 = World.alloc w16 (.cells #[.int .i64 0, .bool false, .bool false, .bool false, .bool false, .bool false, .bool false, .bool false, .bool false] 64) → ((∀ j, j < 9 → (World.cell? w28 (Addr.add ⟨b27, 0, none⟩ j)).isSome = true ∧ World.frozen? w28 (Addr.add ⟨b27, 0, none⟩ j) = false) ∧ ∀ w29 : World, w29 = putCells w28 ⟨b27, 0, none⟩ [.int .i64 x18, .bool x19, .bool x20, .bool x21, .bool x22, .bool x23, .bool x24, .bool x25, .bool x26] 0 → ((0 : Int) ≤ a_h2 ∧ a_h2 < ((8 : Nat) : Int) ∧ (∃ x30 : Bool, World.cell? w29 ⟨b27, 0 + 1 + (a_h2 : Int).toNat * 1, none⟩ = some (.bool x30) ∧ (((x30 = true) → (∀ (b31 : Nat) (w32 : World), b31 = World.heapSize w29 → w32 = World.alloc w29 (.cells #[.int .i64 x17] 3) → (∃ x34 : Option Addr, ∃ x34l : Nat, ∃ x34c : Nat, ∃ w33 : World, (Builtin.append_ #[23, 23] 23 #[.slice v11 v11l v11c, .slice (some ⟨b31, 0, none⟩) 1 1]).run Try.prog w32 = .ok (.slice x34 x34l x34c) w33 ∧ (∃ m35, m35 < m12 ∧ I11 m35 x34 x34l x34c w33)))) ∧ ((x30 = false) → (∃ m36, m36 < m12 ∧ I11 m36 v11 v11l v11c w29))))))))) ∧ ((nb14 = false) → (Calls Try.prog 22 #[.slice v11 v11l v11c] w16 fun e w37 => e = .returned (.tuple #[]) ∧ R (.returned (.slice v11 v11l v11c)) w37))))))))) ∧ ((x3 = false) → R (.returned (.slice none 0 0)) w4)))

theorem vc11 {a_t1 : Option Addr} {a_h2 : Int} {w : World} {R : Ending → World → Prop} (H : Vc11 a_t1 a_h2 w R) : Calls Try.prog 11 #[.pointer a_t1, .int .i64 a_h2] w R := by
  unfold Vc11 at H
  refine calls_start [.pointer a_t1, .int .i64 a_h2] Try.func11 rfl Try.ntmps11 rfl ?_
  refine c_seq ?_
  intro K1 hK1
  refine c_region ?_
  refine L_val (v := .slice none 0 0) (y_assign ev_c) ?_
  refine l_nil ?_
  refine then_norm ?_
  refine hK1 _ _ ?_
  clear hK1
  refine c_seq ?_
  intro K2 hK2
  refine c_seq ?_
  intro K3 hK3
  refine c_region ?_
  refine L_val (v := .pointer a_t1) (y_move (ev_tv rfl rfl)) ?_
  refine L_val (v := .int .i64 a_h2) (y_move (ev_tv rfl rfl)) ?_
  refine L_call (y_call Try.call20 (map_ev2 (ev_tv rfl rfl) (ev_tv rfl rfl)) ev_f) (Calls.mono H ?_)
  clear H
  rintro _ w4 ⟨x3, rfl, H⟩
  refine ⟨_, rfl, ?_⟩
  rcases Bool.eq_false_or_eq_true x3 with hb4 | hb4
  · replace H := H.1 hb4
    have hq5 : Value.bool (x3) = Value.bool true := congrArg Value.bool hb4
    refine L_val (v := .bool false) (y_not_t (ev_tv rfl hq5)) ?_
    refine l_nil ?_
    refine then_norm ?_
    refine hK3 _ _ ?_
    clear hK3
    refine cond_f (ev_tv rfl rfl) ?_
    refine c_skip ?_
    refine then_norm ?_
    refine hK2 _ _ ?_
    clear hK2
    refine c_seq ?_
    intro K6 hK6
    refine c_region ?_
    refine L_val (v := .slice none 0 0) (y_assign ev_c) ?_
    refine l_nil ?_
    refine then_norm ?_
    refine hK6 _ _ ?_
    clear hK6
    refine c_seq ?_
    intro K7 hK7
    refine c_seq ?_
    intro K8 hK8
    refine c_region ?_
    refine L_val (v := .pointer a_t1) (y_move (ev_tv rfl rfl)) ?_
    obtain ⟨b6, o7, rfl, H⟩ := H
    refine L_val (v := .pointer (some ⟨b6, o7, none⟩)) (y_nilCheck (ev_tv rfl rfl)) ?_
    refine L_val (v := .pointer (some ⟨b6, o7 + 3, none⟩)) (Try.fa56_3 (ev_tv rfl rfl)) ?_
    obtain ⟨x8, hc9, H⟩ := H
    refine L_val (v := .map x8) (y_load Try.underlying54 rfl (ev_tv rfl rfl) hc9) ?_
    obtain ⟨x10, w9, hc10, H⟩ := H
    refine L_val (v := .pointer x10) (y_range (ev_tv rfl rfl) hc10) ?_
    refine l_nil ?_
    refine then_norm ?_
    refine hK8 _ _ ?_
    clear hK8
    refine c_block ?_
    obtain ⟨I11, ⟨m15, HI16⟩, H⟩ := H
    refine loop_fr ([(5, 7), (17, 29)]) (fun m ff ww => ∃ (v11 : Option Addr) (v11l : Nat) (v11c : Nat), ff 5 = (.slice v11 v11l v11c : Value) ∧ I11 m v11 v11l v11c ww) m15 ⟨none, 0, 0, rfl, HI16⟩ ?_
    rintro m12 f12 w13 hag13 ⟨v11, v11l, v11c, hs17, HI14⟩
    replace H := H m12 v11 v11l v11c w13 HI14
    refine c_seq ?_
    intro K18 hK18
    refine c_region ?_
    obtain ⟨nb14, nv15, w16, hc19, hn20, H⟩ := H
    refine L_val (v := nv15) (y_next (ev_tv rfl ((hag13 16 rfl).trans rfl)) hc19) ?_
    refine L_val (v := .bool nb14) (y_extractV (ev_tv rfl rfl) (hn20 _)) ?_
    refine l_nil ?_
    refine then_norm ?_
    refine hK18 _ _ ?_
    clear hK18
    refine c_seq ?_
    intro K21 hK21
    rcases Bool.eq_false_or_eq_true nb14 with hb22 | hb22
    · replace H := H.1 hb22
      have hq23 : Value.bool (nb14) = Value.bool true := congrArg Value.bool hb22
      refine cond_t (ev_tv rfl hq23) ?_
      refine c_skip ?_
      refine then_norm ?_
      refine hK21 _ _ ?_
      clear hK21
      refine c_block ?_
      refine c_seq ?_
      intro K24 hK24
      refine c_region ?_
      obtain ⟨x17, x18, x19, x20, x21, x22, x23, x24, x25, x26, hc25, H⟩ := H
      refine L_val (v := .tuple #[.int .i64 x17, .agg #[.int .i64 x18, .bool x19, .bool x20, .bool x21, .bool x22, .bool x23, .bool x24, .bool x25, .bool x26]]) (y_entry (ev_tv rfl ((hag13 16 rfl).trans rfl)) hc25) ?_
      refine L_val (v := .int .i64 x17) (y_extract (ev_tv rfl rfl) rfl) ?_
      refine L_val (v := .agg #[.int .i64 x18, .bool x19, .bool x20, .bool x21, .bool x22, .bool x23, .bool x24, .bool x25, .bool x26]) (y_extract (ev_tv rfl rfl) rfl) ?_
      obtain ⟨b27, hb26⟩ : ∃ b27 : Nat, b27 = World.heapSize w16 := ⟨_, rfl⟩
      obtain ⟨w28, hw27⟩ : ∃ w28 : World, w28 = World.alloc w16 (.cells #[.int .i64 0, .bool false, .bool false, .bool false, .bool false, .bool false, .bool false, .bool false, .bool false] 64) := ⟨_, rfl⟩
      replace H := H b27 w28 hb26 hw27
      refine L_val (v := .pointer (some ⟨b27, 0, none⟩)) (y_alloc Try.type64 rfl rfl hb26 hw27) ?_
      refine L_val (v := .int .i64 x17) (y_assign (ev_tv rfl rfl)) ?_
      obtain ⟨hc28, H⟩ := H
      obtain ⟨w29, hw30⟩ : ∃ w29 : World, w29 = putCells w28 ⟨b27, 0, none⟩ [.int .i64 x18, .bool x19, .bool x20, .bool x21, .bool x22, .bool x23, .bool x24, .bool x25, .bool x26] 0 := ⟨_, rfl⟩
      replace H := H w29 hw30
      refine L_skip (y_storeAgg Try.type64 rfl (by intro v hv; simp only [List.mem_cons, List.not_mem_nil, or_false] at hv; rcases hv with rfl | rfl | rfl | rfl | rfl | rfl | rfl | rfl | rfl <;> rfl) (ev_tv rfl rfl) (ev_tv rfl rfl) hc28 hw30) ?_
      refine l_nil ?_
      refine then_norm ?_
      refine hK24 _ _ ?_
      clear hK24
      refine c_seq ?_
      intro K31 hK31
      refine c_region ?_
      refine L_val (v := .int .i64 a_h2) (y_move (ev_tv rfl ((hag13 1 rfl).trans rfl))) ?_
      refine L_val (v := .pointer (some ⟨b27, 0 + 1, none⟩)) (Try.fa64_1 (ev_tv rfl rfl)) ?_
      obtain ⟨hi32, hi33, H⟩ := H
      refine L_val (v := .pointer (some ⟨b27, 0 + 1 + (a_h2 : Int).toNat * 1, none⟩)) (y_ixA Try.underlying62 Try.type4 rfl (ev_tv rfl rfl) (ev_tv rfl rfl) hi32 hi33) ?_
      obtain ⟨x30, hc34, H⟩ := H
      refine L_val (v := .bool x30) (y_load Try.underlying4 rfl (ev_tv rfl rfl) hc34) ?_
      refine l_nil ?_
      refine then_norm ?_
      refine hK31 _ _ ?_
      clear hK31
      rcases Bool.eq_false_or_eq_true x30 with hb35 | hb35
      · replace H := H.1 hb35
        have hq36 : Value.bool (x30) = Value.bool true := congrArg Value.bool hb35
        refine cond_t (ev_tv rfl hq36) ?_
        refine c_region ?_
        refine L_val (v := .slice v11 v11l v11c) (y_move (ev_tv rfl hs17)) ?_
        refine L_val (v := .int .i64 x17) (y_move (ev_tv rfl rfl)) ?_
        obtain ⟨b31, hb37⟩ : ∃ b31 : Nat, b31 = World.heapSize w29 := ⟨_, rfl⟩
        obtain ⟨w32, hw38⟩ : ∃ w32 : World, w32 = World.alloc w29 (.cells #[.int .i64 x17] 3) := ⟨_, rfl⟩
        replace H := H b31 w32 hb37 hw38
        refine L_val (v := .slice (some ⟨b31, 0, none⟩) 1 1) (y_buildSlice (parts_ev1 (ev_tv rfl rfl)) hb37 hw38 (by kernel_rfl)) ?_
        obtain ⟨x34, x34l, x34c, w33, hc39, H⟩ := H
        refine L_val (v := .slice x34 x34l x34c) (y_bi_append (map_ev2 (ev_tv rfl rfl) (ev_tv rfl rfl)) hc39) ?_
        refine L_val (v := .slice x34 x34l x34c) (y_assign (ev_tv rfl rfl)) ?_
        refine l_nil ?_
        refine block_norm ?_
        refine then_norm ?_
        obtain ⟨m35, hm40, H⟩ := H
        exact ⟨_, rfl, (by repeat (first | exact agree_refl | exact hag13 | refine agree_upd rfl ?_ | refine agree_via hag13 rfl ?_)), m35, hm40, _, _, _, rfl, H⟩
      · replace H := H.2 hb35
        have hq36 : Value.bool (x30) = Value.bool false := congrArg Value.bool hb35
        refine cond_f (ev_tv rfl hq36) ?_
        refine c_skip ?_
        refine block_norm ?_
        refine then_norm ?_
        obtain ⟨m36, hm41, H⟩ := H
        exact ⟨_, rfl, (by repeat (first | exact agree_refl | exact hag13 | refine agree_upd rfl ?_ | refine agree_via hag13 rfl ?_)), m36, hm41, _, _, _, hs17, H⟩
    · replace H := H.2 hb22
      have hq23 : Value.bool (nb14) = Value.bool false := congrArg Value.bool hb22
      refine cond_f (ev_tv rfl hq23) ?_
      refine c_exit ?_
      refine then_exit ?_
      refine then_exit ?_
      refine block_hit ?_
      refine then_norm ?_
      refine hK7 _ _ ?_
      clear hK7
      refine c_seq ?_
      intro K42 hK42
      refine c_region ?_
      refine L_val (v := .slice v11 v11l v11c) (y_move (ev_tv rfl hs17)) ?_
      refine L_call (y_call Try.call22 (map_ev1 (ev_tv rfl rfl)) ev_f) (Calls.mono H ?_)
      clear H
      rintro _ w37 ⟨rfl, H⟩
      refine ⟨_, rfl, ?_⟩
      refine l_nil ?_
      refine then_norm ?_
      refine hK42 _ _ ?_
      clear hK42
      refine c_seq ?_
      intro K43 hK43
      refine c_region ?_
      refine L_val (v := .slice v11 v11l v11c) (y_move (ev_tv rfl hs17)) ?_
      refine L_val (v := .slice v11 v11l v11c) (y_assign (ev_tv rfl rfl)) ?_
      refine l_nil ?_
      refine then_norm ?_
      refine hK43 _ _ ?_
      clear hK43
      refine c_ret ?_
      exact body_1 rfl (ev_tv rfl rfl) H
  · replace H := H.2 hb4
    have hq5 : Value.bool (x3) = Value.bool false := congrArg Value.bool hb4
    refine L_val (v := .bool true) (y_not_f (ev_tv rfl hq5)) ?_
    refine l_nil ?_
    refine then_norm ?_
    refine hK3 _ _ ?_
    clear hK3
    refine cond_t (ev_tv rfl rfl) ?_
    refine c_seq ?_
    intro K44 hK44
    refine c_region ?_
    refine L_val (v := .slice none 0 0) (y_assign ev_c) ?_
    refine l_nil ?_
    refine then_norm ?_
    refine hK44 _ _ ?_
    clear hK44
    refine c_ret ?_
    refine then_ret ?_
    exact body_1 rfl (ev_tv rfl rfl) H

/-- (parapet/tlb.Tlb).Over -/
def Vc12 (a_t1 : Option Addr) (a_id2 : Int) (w : World) (R : Ending → World → Prop) : Prop :=
  (((a_t1 = none) → R (.returned (.bool false)) w) ∧ ((a_t1 ≠ none) → ((((a_id2 : Int) < 1) → R (.returned (.bool false)) w) ∧ ((¬ ((a_id2 : Int) < 1)) → (∃ (b3 o4 : Nat), a_t1 = some ⟨b3, o4, none⟩ ∧ (∃ x5 : Int, World.cell? w ⟨b3, o4 + 2, none⟩ = some (.int .i64 x5) ∧ ((((x5 : Int) < a_id2) → R (.returned (.bool false)) w) ∧ ((¬ ((x5 : Int) < a_id2)) → (∃ x6 : Option Nat, World.cell? w ⟨b3, o4 + 3, none⟩ = some (.map x6) ∧ (∃ x7 : Int, ∃ x8 : Bool, ∃ x9 : Bool, ∃ x10 : Bool, ∃ x11 : Bool, ∃ x12 : Bool, ∃ x13 : Bool, ∃ x14 : Bool, ∃ x15 : Bool, ∃ ok16 : Bool, (Instr.lookup 54 (.map x6) (.int .i64 a_id2) true).run Try.prog w = .ok (.tuple #[.agg #[.int .i64 x7, .bool x8, .bool x9, .bool x10, .bool x11, .bool x12, .bool x13, .bool x14, .bool x15], .bool ok16]) w ∧ (∀ (b17 : Nat) (w18 : World), b17 = World.heapSize w → w18 = World.alloc w (.cells #[.int .i64 0, .bool false, .bool false, .bool false, .bool false, .bool false, .bool false, .bool false, .bool false] 64) → ((∀ j, j < 9 → (World.cell? w18 (Addr.add ⟨b17, 0, none⟩ j)).isSome = true ∧ World.frozen? w18 (Addr.add ⟨b17, 0, none⟩ j) = false) ∧ ∀ w19 : World, w19 = putCells w18 ⟨b17, 0, none⟩ [.int .i64 x7, .bool x8, .bool x9, .bool x10, .bool x11, .bool x12, .bool x13, .bool x14, .bool x15] 0 → (((ok16 = true) → R (.returned (.bool false)) w19) ∧ ((ok16 = false) → R (.returned (.bool true)) w19))))))))))))))

theorem vc12 {a_t1 : Option Addr} {a_id2 : Int} {w : World} {R : Ending → World → Prop} (H : Vc12 a_t1 a_id2 w R) : Calls Try.prog 12 #[.pointer a_t1, .int .i64 a_id2] w R := by
  unfold Vc12 at H
  refine calls_start [.pointer a_t1, .int .i64 a_id2] Try.func12 rfl Try.ntmps12 rfl ?_
  refine c_seq ?_
  intro K1 hK1
  refine c_region ?_
  refine L_val (v := .bool false) (y_assign ev_c) ?_
  refine l_nil ?_
  refine then_norm ?_
  refine hK1 _ _ ?_
  clear hK1
  refine c_seq ?_
  intro K2 hK2
  refine c_seq ?_
  intro K3 hK3
  refine c_region ?_
  refine L_val (v := .pointer a_t1) (y_move (ev_tv rfl rfl)) ?_
  refine L_val (v := .bool (a_t1.isNone)) (y_peq Try.underlying24 (ev_tv rfl rfl) ev_c) ?_
  refine L_val (v := .bool (a_t1.isNone)) (y_move (ev_tv rfl rfl)) ?_
  rcases (Classical.em (a_t1 = none)) with hb4 | hb4
  · replace H := H.1 hb4
    have hq5 : Value.bool (a_t1.isNone) = Value.bool true := congrArg Value.bool (isn_t hb4)
    refine G_not (b' := true) (dj := 9) rfl rfl hq5 rfl ?_
    refine G_not (b' := true) (dj := 9) rfl rfl hq5 rfl ?_
    refine L_val (v := .bool true) (y_pick_t (ev_tv rfl hq5) ev_c) ?_
    refine L_val (v := .bool true) (y_move (ev_tv rfl rfl)) ?_
    refine G_not (b' := true) (dj := 13) rfl rfl rfl rfl ?_
    refine G_not (b' := true) (dj := 13) rfl rfl rfl rfl ?_
    refine G_not (b' := true) (dj := 13) rfl rfl rfl rfl ?_
    refine G_not (b' := true) (dj := 13) rfl rfl rfl rfl ?_
    refine G_not (b' := true) (dj := 13) rfl rfl rfl rfl ?_
    refine G_not (b' := true) (dj := 13) rfl rfl rfl rfl ?_
    refine L_val (v := .bool true) (y_pick_t (ev_tv rfl rfl) ev_c) ?_
    refine l_nil ?_
    refine then_norm ?_
    refine hK3 _ _ ?_
    clear hK3
    refine cond_t (ev_tv rfl rfl) ?_
    refine c_seq ?_
    intro K6 hK6
    refine c_region ?_
    refine L_val (v := .bool false) (y_assign ev_c) ?_
    refine l_nil ?_
    refine then_norm ?_
    refine hK6 _ _ ?_
    clear hK6
    refine c_ret ?_
    refine then_ret ?_
    exact body_1 rfl (ev_tv rfl rfl) H
  · replace H := H.2 hb4
    have hq5 : Value.bool (a_t1.isNone) = Value.bool false := congrArg Value.bool (isn_f hb4)
    refine G_val (dj := 9) rfl rfl hq5 (v := .int .i64 a_id2) (y_move (ev_tv rfl rfl)) ?_
    refine G_val (dj := 9) rfl rfl hq5 (v := .bool (decide ((a_id2 : Int) < 1))) (y_lss (ev_tv rfl rfl) ev_c) ?_
    refine L_val (v := .bool (decide ((a_id2 : Int) < 1))) (y_pick_f (ev_tv rfl hq5) (ev_tv rfl rfl)) ?_
    refine L_val (v := .bool (decide ((a_id2 : Int) < 1))) (y_move (ev_tv rfl rfl)) ?_
    rcases (Decidable.em ((a_id2 : Int) < 1)) with hb7 | hb7
    · replace H := H.1 hb7
      have hq8 : Value.bool (decide ((a_id2 : Int) < 1)) = Value.bool true := congrArg Value.bool (decide_eq_true hb7)
      refine G_not (b' := true) (dj := 13) rfl rfl hq8 rfl ?_
      refine G_not (b' := true) (dj := 13) rfl rfl hq8 rfl ?_
      refine G_not (b' := true) (dj := 13) rfl rfl hq8 rfl ?_
      refine G_not (b' := true) (dj := 13) rfl rfl hq8 rfl ?_
      refine G_not (b' := true) (dj := 13) rfl rfl hq8 rfl ?_
      refine G_not (b' := true) (dj := 13) rfl rfl hq8 rfl ?_
      refine L_val (v := .bool true) (y_pick_t (ev_tv rfl hq8) ev_c) ?_
      refine l_nil ?_
      refine then_norm ?_
      refine hK3 _ _ ?_
      clear hK3
      refine cond_t (ev_tv rfl rfl) ?_
      refine c_seq ?_
      intro K9 hK9
      refine c_region ?_
      refine L_val (v := .bool false) (y_assign ev_c) ?_
      refine l_nil ?_
      refine then_norm ?_
      refine hK9 _ _ ?_
      clear hK9
      refine c_ret ?_
      refine then_ret ?_
      exact body_1 rfl (ev_tv rfl rfl) H
    · replace H := H.2 hb7
      have hq8 : Value.bool (decide ((a_id2 : Int) < 1)) = Value.bool false := congrArg Value.bool (decide_eq_false hb7)
      refine G_val (dj := 13) rfl rfl hq8 (v := .int .i64 a_id2) (y_move (ev_tv rfl rfl)) ?_
      refine G_val (dj := 13) rfl rfl hq8 (v := .pointer a_t1) (y_move (ev_tv rfl rfl)) ?_
      obtain ⟨b3, o4, rfl, H⟩ := H
      refine G_val (dj := 13) rfl rfl hq8 (v := .pointer (some ⟨b3, o4, none⟩)) (y_nilCheck (ev_tv rfl rfl)) ?_
      refine G_val (dj := 13) rfl rfl hq8 (v := .pointer (some ⟨b3, o4 + 2, none⟩)) (Try.fa56_2 (ev_tv rfl rfl)) ?_
      obtain ⟨x5, hc10, H⟩ := H
      refine G_val (dj := 13) rfl rfl hq8 (v := .int .i64 x5) (y_load Try.underlying3 rfl (ev_tv rfl rfl) hc10) ?_
      refine G_val (dj := 13) rfl rfl hq8 (v := .bool (decide ((x5 : Int) < a_id2))) (y_gtr (ev_tv rfl rfl) (ev_tv rfl rfl)) ?_
      refine L_val (v := .bool (decide ((x5 : Int) < a_id2))) (y_pick_f (ev_tv rfl hq8) (ev_tv rfl rfl)) ?_
      refine l_nil ?_
      refine then_norm ?_
      refine hK3 _ _ ?_
      clear hK3
      rcases (Decidable.em ((x5 : Int) < a_id2)) with hb11 | hb11
      · replace H := H.1 hb11
        have hq12 : Value.bool (decide ((x5 : Int) < a_id2)) = Value.bool true := congrArg Value.bool (decide_eq_true hb11)
        refine cond_t (ev_tv rfl hq12) ?_
        refine c_seq ?_
        intro K13 hK13
        refine c_region ?_
        refine L_val (v := .bool false) (y_assign ev_c) ?_
        refine l_nil ?_
        refine then_norm ?_
        refine hK13 _ _ ?_
        clear hK13
        refine c_ret ?_
        refine then_ret ?_
        exact body_1 rfl (ev_tv rfl rfl) H
      · replace H := H.2 hb11
        have hq12 : Value.bool (decide ((x5 : Int) < a_id2)) = Value.bool false := congrArg Value.bool (decide_eq_false hb11)
        refine cond_f (ev_tv rfl hq12) ?_
        refine c_skip ?_
        refine then_norm ?_
        refine hK2 _ _ ?_
        clear hK2
        refine c_seq ?_
        intro K14 hK14
        refine c_region ?_
        refine L_val (v := .pointer (some ⟨b3, o4, none⟩)) (y_move (ev_tv rfl rfl)) ?_
        refine L_val (v := .pointer (some ⟨b3, o4, none⟩)) (y_nilCheck (ev_tv rfl rfl)) ?_
        refine L_val (v := .pointer (some ⟨b3, o4 + 3, none⟩)) (Try.fa56_3 (ev_tv rfl rfl)) ?_
        obtain ⟨x6, hc15, H⟩ := H
        refine L_val (v := .map x6) (y_load Try.underlying54 rfl (ev_tv rfl rfl) hc15) ?_
        refine L_val (v := .int .i64 a_id2) (y_move (ev_tv rfl rfl)) ?_
        obtain ⟨x7, x8, x9, x10, x11, x12, x13, x14, x15, ok16, hc16, H⟩ := H
        refine L_val (v := .tuple #[.agg #[.int .i64 x7, .bool x8, .bool x9, .bool x10, .bool x11, .bool x12, .bool x13, .bool x14, .bool x15], .bool ok16]) (y_lookup (ev_tv rfl rfl) (ev_tv rfl rfl) hc16) ?_
        refine L_val (v := .tuple #[.agg #[.int .i64 x7, .bool x8, .bool x9, .bool x10, .bool x11, .bool x12, .bool x13, .bool x14, .bool x15], .bool ok16]) (y_move (ev_tv rfl rfl)) ?_
        refine L_val (v := .agg #[.int .i64 x7, .bool x8, .bool x9, .bool x10, .bool x11, .bool x12, .bool x13, .bool x14, .bool x15]) (y_extract (ev_tv rfl rfl) rfl) ?_
        refine L_val (v := .bool ok16) (y_extract (ev_tv rfl rfl) rfl) ?_
        obtain ⟨b17, hb17⟩ : ∃ b17 : Nat, b17 = World.heapSize w := ⟨_, rfl⟩
        obtain ⟨w18, hw18⟩ : ∃ w18 : World, w18 = World.alloc w (.cells #[.int .i64 0, .bool false, .bool false, .bool false, .bool false, .bool false, .bool false, .bool false, .bool false] 64) := ⟨_, rfl⟩
        replace H := H b17 w18 hb17 hw18
        refine L_val (v := .pointer (some ⟨b17, 0, none⟩)) (y_alloc Try.type64 rfl rfl hb17 hw18) ?_
        obtain ⟨hc19, H⟩ := H
        obtain ⟨w19, hw21⟩ : ∃ w19 : World, w19 = putCells w18 ⟨b17, 0, none⟩ [.int .i64 x7, .bool x8, .bool x9, .bool x10, .bool x11, .bool x12, .bool x13, .bool x14, .bool x15] 0 := ⟨_, rfl⟩
        replace H := H w19 hw21
        refine L_skip (y_storeAgg Try.type64 rfl (by intro v hv; simp only [List.mem_cons, List.not_mem_nil, or_false] at hv; rcases hv with rfl | rfl | rfl | rfl | rfl | rfl | rfl | rfl | rfl <;> rfl) (ev_tv rfl rfl) (ev_tv rfl rfl) hc19 hw21) ?_
        refine L_val (v := .bool ok16) (y_assign (ev_tv rfl rfl)) ?_
        refine l_nil ?_
        refine then_norm ?_
        refine hK14 _ _ ?_
        clear hK14
        refine c_seq ?_
        intro K22 hK22
        refine c_region ?_
        refine L_val (v := .bool ok16) (y_move (ev_tv rfl rfl)) ?_
        rcases Bool.eq_false_or_eq_true ok16 with hb23 | hb23
        · replace H := H.1 hb23
          have hq24 : Value.bool (ok16) = Value.bool true := congrArg Value.bool hb23
          refine L_val (v := .bool false) (y_not_t (ev_tv rfl hq24)) ?_
          refine L_val (v := .bool false) (y_assign (ev_tv rfl rfl)) ?_
          refine l_nil ?_
          refine then_norm ?_
          refine hK22 _ _ ?_
          clear hK22
          refine c_ret ?_
          exact body_1 rfl (ev_tv rfl rfl) H
        · replace H := H.2 hb23
          have hq24 : Value.bool (ok16) = Value.bool false := congrArg Value.bool hb23
          refine L_val (v := .bool true) (y_not_f (ev_tv rfl hq24)) ?_
          refine L_val (v := .bool true) (y_assign (ev_tv rfl rfl)) ?_
          refine l_nil ?_
          refine then_norm ?_
          refine hK22 _ _ ?_
          clear hK22
          refine c_ret ?_
          exact body_1 rfl (ev_tv rfl rfl) H

/-- (parapet/tlb.Tlb).Handle -/
def Vc13 (a_t1 : Option Addr) (a_h2 : Int) (w : World) (R : Ending → World → Prop) : Prop :=
  (Calls Try.prog 11 #[.pointer a_t1, .int .i64 a_h2] w fun e w4 => ∃ x3 : Option Addr, ∃ x3l : Nat, ∃ x3c : Nat, e = .returned (.slice x3 x3l x3c) ∧ (∃ I5 : Nat → Int → World → Prop, (∃ m, I5 m 0 w4) ∧ ∀ (m7 : Nat) (v6 : Int) (w8 : World), I5 m7 v6 w8 → ((((v6 : Int) < ((x3l : Nat) : Int)) → (∃ (b9 o10 : Nat), x3 = some ⟨b9, o10, none⟩ ∧ ((0 : Int) ≤ v6 ∧ v6 < ((x3l : Nat) : Int) ∧ (∃ x11 : Int, World.cell? w8 ⟨b9, o10 + (v6 : Int).toNat, none⟩ = some (.int .i64 x11) ∧ (∃ (b12 o13 : Nat), a_t1 = some ⟨b12, o13, none⟩ ∧ (∃ x14 : Option Nat, World.cell? w8 ⟨b12, o13 + 3, none⟩ = some (.map x14) ∧ (∃ x15 : Int, ∃ x16 : Bool, ∃ x17 : Bool, ∃ x18 : Bool, ∃ x19 : Bool, ∃ x20 : Bool, ∃ x21 : Bool, ∃ x22 : Bool, ∃ x23 : Bool, (Instr.lookup 54 (.map x14) (.int .i64 x11) false).run Try.prog w8 = .ok (.agg #[.int .i64 x15, .bool x16, .bool x17, .bool x18, .bool x19, .bool x20, .bool x21, .bool x22, .bool x23]) w8 ∧ (∀ (b24 : Nat) (w25 : World), b24 = World.heapSize w8 → w25 = World.alloc w8 (.cells #[.int .i64 0, .bool false, .bool false, .bool false, .bool false, .bool false, .bool false, .bool false, .bool false] 64) → ((∀ j, j < 9 → (World.cell? w25 (Addr.add ⟨b24, 0, none⟩ j)).isSome = true ∧ World.frozen? w25 (Addr.add ⟨b24, 0, none⟩ j) = false) ∧ ∀ w26 : World, w26 = putCells w25 ⟨b24, 0, none⟩ [.int .i64 x15, .bool x16, .bool x17, .bool x18, .bool x19, .bool x20, .bool x21, .bool x22, .bool x23] 0 → (∃ x27 : Option Addr, ∃ x27l : Nat, ∃ x27c : Nat, World.cell? (w26.drew) ⟨b12, o13 + 1, none⟩ = some (.slice x27 x27l x27c) ∧ (∃ (b28 o29 : Nat), x27 = some ⟨b28, o29, none⟩ ∧ ((0 : Int) ≤ a_h2 ∧ a_h2 < ((x27l : Nat) : Int) ∧ (∃ x30 : Int, World.cell? (w26.drew) ⟨b24, 0, none⟩ = some (.int .i64 x30) ∧ (Calls Try.prog 23 #[.pointer (some ⟨b28, o29 + (a_h2 : Int).toNat * 2, none⟩), .int .i64 x30] (w26.drew) fun e w32 => ∃ x31 : Int, e = .returned (.int .i64 x31) ∧ (World.cell? w32 ⟨b12, o13 + 1, none⟩ = some (.slice x27 x27l x27c) ∧ ((0 : Int) ≤ a_h2 ∧ a_h2 < ((8 : Nat) : Int) ∧ ((World.cell? w32 ⟨b24, 0 + 1 + (a_h2 : Int).toNat * 1, none⟩).isSome = true ∧ World.frozen? w32 ⟨b24, 0 + 1 + (a_h2 : Int).toNat * 1, none⟩ = false ∧ ∀ w33 : World, w33 = World.setCell w32 ⟨b24, 0 + 1 + (a_h2 : Int).toNat * 1, none⟩ (.bool false) → (∃ x34 : Bool, ∃ x35 : Bool, ∃ x36 : Bool, ∃ x37 : Bool, ∃ x38 : Bool, ∃ x39 : Bool, ∃ x40 : Bool, ∃ x41 : Bool, CellsAt w33 ⟨b24, 0 + 1, none⟩ [.bool x34, .bool x35, .bool x36, .bool x37, .bool x38, .bool x39, .bool x40, .bool x41] ∧ (∃ q42 : Bool, (∀ w' : World, (eqGuard .eql 62 (.tmp 37) (.tmp 38) (.agg #[.bool x34, .bool x35, .bool x36, .bool x37, .bool x38, .bool x39, .bool x40, .bool x41]) (.agg #[.bool false, .bool false, .bool false, .bool false, .bool false, .bool false, .bool false, .bool false])).run Try.prog w' = .ok () w') ∧ (∀ w' : World, (binOp .eql 62 (.agg #[.bool x34, .bool x35, .bool x36, .bool x37, .bool x38, .bool x39, .bool x40, .bool x41]) (.agg #[.bool false, .bool false, .bool false, .bool false, .bool false, .bool false, .bool false, .bool false])).run Try.prog w' = .ok (.bool q42) w') ∧ (((q42 = true) → (∃ x43 : Option Nat, World.cell? w33 ⟨b12, o13 + 3, none⟩ = some (.map x43) ∧ (∃ w44 : World, (Builtin.delete_ #[54, 3] 0 #[.map x43, .int .i64 x11]).run Try.prog w33 = .ok (.tuple #[]) w44 ∧ (∀ r45 : Int, r45 = IntKind.wrap .i64 (v6 + 1) → (∃ m46, m46 < m7 ∧ I5 m46 r45 w44))))) ∧ ((q42 = false) → (∃ x47 : Option Nat, World.cell? (w33.drew) ⟨b12, o13 + 3, none⟩ = some (.map x47) ∧ (∃ x48 : Int, ∃ x49 : Bool, ∃ x50 : Bool, ∃ x51 : Bool, ∃ x52 : Bool, ∃ x53 : Bool, ∃ x54 : Bool, ∃ x55 : Bool, ∃ x56 : Bool, CellsAt (w33.drew) ⟨b24, 0, none⟩ [.int .i64 x48, .bool x49, .bool x50, .bool x51, .bool x52, .bool x53, .bool x54, .bool x55, .bool x56] ∧ (∃ w57 : World, (Instr.mapUpdate 54 (.map x47) (.int .i64 x11) (.agg #[.int .i64 x48, .bool x49, .bool x50, .bool x51, .bool x52, .bool x53, .bool x54, .bool x55, .bool x56])).run Try.prog (w33.drew) = .ok () w57 ∧ (∀ r58 : Int, r58 = IntKind.wrap .i64 (v6 + 1) → (∃ m59, m59 < m7 ∧ I5 m59 r58 w57)))))))))))))))))))))))))) ∧ ((¬ ((v6 : Int) < ((x3l : Nat) : Int))) → R (.returned (.int .i64 ((x3l : Nat) : Int))) w8))))

theorem vc13 {a_t1 : Option Addr} {a_h2 : Int} {w : World} {R : Ending → World → Prop} (H : Vc13 a_t1 a_h2 w R) : Calls Try.prog 13 #[.pointer a_t1, .int .i64 a_h2] w R := by
  unfold Vc13 at H
  refine calls_start [.pointer a_t1, .int .i64 a_h2] Try.func13 rfl Try.ntmps13 rfl ?_
  refine c_seq ?_
  intro K1 hK1
  refine c_region ?_
  refine L_val (v := .int .i64 0) (y_assign ev_c) ?_
  refine l_nil ?_
  refine then_norm ?_
  refine hK1 _ _ ?_
  clear hK1
  refine c_seq ?_
  intro K2 hK2
  refine c_region ?_
  refine L_val (v := .pointer a_t1) (y_move (ev_tv rfl rfl)) ?_
  refine L_val (v := .int .i64 a_h2) (y_move (ev_tv rfl rfl)) ?_
  refine L_call (y_call Try.call11 (map_ev2 (ev_tv rfl rfl) (ev_tv rfl rfl)) ev_f) (Calls.mono H ?_)
  clear H
  rintro _ w4 ⟨x3, x3l, x3c, rfl, H⟩
  refine ⟨_, rfl, ?_⟩
  refine L_val (v := .slice x3 x3l x3c) (y_assign (ev_tv rfl rfl)) ?_
  refine l_nil ?_
  refine then_norm ?_
  refine hK2 _ _ ?_
  clear hK2
  refine c_seq ?_
  intro K3 hK3
  refine c_seq ?_
  intro K4 hK4
  refine c_region ?_
  refine L_val (v := .slice x3 x3l x3c) (y_move (ev_tv rfl rfl)) ?_
  refine L_val (v := .int .i64 ((x3l : Nat) : Int)) (y_len Try.underlying23 rfl (map_ev1 (ev_tv rfl rfl))) ?_
  refine L_val (v := .int .i64 0) (y_move ev_c) ?_
  refine l_nil ?_
  refine then_norm ?_
  refine hK4 _ _ ?_
  clear hK4
  refine c_block ?_
  obtain ⟨I5, ⟨m9, HI10⟩, H⟩ := H
  refine loop_fr ([(7, 8), (14, 51)]) (fun m ff ww => ∃ (v6 : Int), ff 14 = (.int .i64 v6 : Value) ∧ I5 m v6 ww) m9 ⟨0, rfl, HI10⟩ ?_
  rintro m7 f6 w8 hag7 ⟨v6, hs11, HI8⟩
  replace H := H m7 v6 w8 HI8
  refine c_seq ?_
  intro K12 hK12
  refine c_region ?_
  refine L_val (v := .bool (decide ((v6 : Int) < ((x3l : Nat) : Int)))) (y_lss (ev_tv rfl hs11) (ev_tv rfl ((hag7 13 rfl).trans rfl))) ?_
  refine l_nil ?_
  refine then_norm ?_
  refine hK12 _ _ ?_
  clear hK12
  refine c_seq ?_
  intro K13 hK13
  rcases (Decidable.em ((v6 : Int) < ((x3l : Nat) : Int))) with hb14 | hb14
  · replace H := H.1 hb14
    have hq15 : Value.bool (decide ((v6 : Int) < ((x3l : Nat) : Int))) = Value.bool true := congrArg Value.bool (decide_eq_true hb14)
    refine cond_t (ev_tv rfl hq15) ?_
    refine c_skip ?_
    refine then_norm ?_
    refine hK13 _ _ ?_
    clear hK13
    refine c_seq ?_
    intro K16 hK16
    refine c_block ?_
    refine c_seq ?_
    intro K17 hK17
    refine c_region ?_
    obtain ⟨b9, o10, rfl, H⟩ := H
    obtain ⟨hi18, hi19, H⟩ := H
    refine L_val (v := .pointer (some ⟨b9, o10 + (v6 : Int).toNat, none⟩)) (y_ix1 Try.underlying23 Try.type3 rfl (ev_tv rfl ((hag7 12 rfl).trans rfl)) (ev_tv rfl hs11) hi18 hi19) ?_
    obtain ⟨x11, hc20, H⟩ := H
    refine L_val (v := .int .i64 x11) (y_load Try.underlying3 rfl (ev_tv rfl rfl) hc20) ?_
    refine L_val (v := .int .i64 x11) (y_assign (ev_tv rfl rfl)) ?_
    refine l_nil ?_
    refine then_norm ?_
    refine hK17 _ _ ?_
    clear hK17
    refine c_seq ?_
    intro K21 hK21
    refine c_region ?_
    refine L_val (v := .pointer a_t1) (y_move (ev_tv rfl ((hag7 0 rfl).trans rfl))) ?_
    obtain ⟨b12, o13, rfl, H⟩ := H
    refine L_val (v := .pointer (some ⟨b12, o13, none⟩)) (y_nilCheck (ev_tv rfl rfl)) ?_
    refine L_val (v := .pointer (some ⟨b12, o13 + 3, none⟩)) (Try.fa56_3 (ev_tv rfl rfl)) ?_
    obtain ⟨x14, hc22, H⟩ := H
    refine L_val (v := .map x14) (y_load Try.underlying54 rfl (ev_tv rfl rfl) hc22) ?_
    refine L_val (v := .int .i64 x11) (y_move (ev_tv rfl rfl)) ?_
    obtain ⟨x15, x16, x17, x18, x19, x20, x21, x22, x23, hc23, H⟩ := H
    refine L_val (v := .agg #[.int .i64 x15, .bool x16, .bool x17, .bool x18, .bool x19, .bool x20, .bool x21, .bool x22, .bool x23]) (y_lookup (ev_tv rfl rfl) (ev_tv rfl rfl) hc23) ?_
    obtain ⟨b24, hb24⟩ : ∃ b24 : Nat, b24 = World.heapSize w8 := ⟨_, rfl⟩
    obtain ⟨w25, hw25⟩ : ∃ w25 : World, w25 = World.alloc w8 (.cells #[.int .i64 0, .bool false, .bool false, .bool false, .bool false, .bool false, .bool false, .bool false, .bool false] 64) := ⟨_, rfl⟩
    replace H := H b24 w25 hb24 hw25
    refine L_val (v := .pointer (some ⟨b24, 0, none⟩)) (y_alloc Try.type64 rfl rfl hb24 hw25) ?_
    obtain ⟨hc26, H⟩ := H
    obtain ⟨w26, hw28⟩ : ∃ w26 : World, w26 = putCells w25 ⟨b24, 0, none⟩ [.int .i64 x15, .bool x16, .bool x17, .bool x18, .bool x19, .bool x20, .bool x21, .bool x22, .bool x23] 0 := ⟨_, rfl⟩
    replace H := H w26 hw28
    refine L_skip (y_storeAgg Try.type64 rfl (by intro v hv; simp only [List.mem_cons, List.not_mem_nil, or_false] at hv; rcases hv with rfl | rfl | rfl | rfl | rfl | rfl | rfl | rfl | rfl <;> rfl) (ev_tv rfl rfl) (ev_tv rfl rfl) hc26 hw28) ?_
    refine l_nil ?_
    refine then_norm ?_
    refine hK21 _ _ ?_
    clear hK21
    refine c_seq ?_
    intro K29 hK29
    refine D_start Try.mixed rfl [8] ?_
    refine start_keep fun hS => ?_
    refine D_pure (i := 0) (v := .pointer (some ⟨b12, o13, none⟩)) rfl (by kernel_rfl) (W_none rfl) (fun _ => y_move (ev_tv rfl ((hag7 0 rfl).trans rfl))) hS ?_
    intro hS
    refine D_pure (i := 1) (v := .pointer (some ⟨b12, o13, none⟩)) rfl (by kernel_rfl) (W_none rfl) (fun _ => y_nilCheck (ev_tv rfl rfl)) hS ?_
    intro hS
    refine D_pure (i := 2) (v := .pointer (some ⟨b12, o13 + 1, none⟩)) rfl (by kernel_rfl) (W_none rfl) (fun _ => Try.fa56_1 (ev_tv rfl rfl)) hS ?_
    intro hS
    refine D_pure (i := 4) (v := .int .i64 a_h2) rfl (by kernel_rfl) (W_none rfl) (fun _ => y_move (ev_tv rfl ((hag7 1 rfl).trans rfl))) hS ?_
    intro hS
    refine D_pure (i := 6) (v := .pointer (some ⟨b24, 0, none⟩)) rfl (by kernel_rfl) (W_none rfl) (fun _ => Try.fa64_0 (ev_tv rfl rfl)) hS ?_
    intro hS
    obtain ⟨x27, x27l, x27c, hc30, H⟩ := H
    refine D_read (i := 3) (v := .slice x27 x27l x27c) rfl (by kernel_rfl) (W_none rfl) (fun wx => World.cell? wx ⟨b12, o13 + 1, none⟩ = some (.slice x27 x27l x27c)) hc30 (fun _ hcx => y_load Try.underlying53 rfl (ev_tv rfl rfl) hcx) hS ?_
    intro hS
    obtain ⟨b28, o29, rfl, H⟩ := H
    obtain ⟨hi31, hi32, H⟩ := H
    refine D_pure (i := 5) (v := .pointer (some ⟨b28, o29 + (a_h2 : Int).toNat * 2, none⟩)) rfl (by kernel_rfl) (W_none rfl) (fun _ => y_ix Try.underlying53 Try.type59 rfl (ev_tv rfl rfl) (ev_tv rfl rfl) hi31 hi32) hS ?_
    intro hS
    obtain ⟨x30, hc33, H⟩ := H
    refine D_read (i := 7) (v := .int .i64 x30) rfl (by kernel_rfl) (W_none rfl) (fun wx => World.cell? wx ⟨b24, 0, none⟩ = some (.int .i64 x30)) hc33 (fun _ hcx => y_load Try.underlying3 rfl (ev_tv rfl rfl) hcx) hS ?_
    intro hS
    refine D_only (i := 8) (by kernel_rfl) rfl ?_
    refine O_call (i := 8) rfl (W_none rfl) (y_call Try.call23 (map_ev2 (ev_tv rfl rfl) (ev_tv rfl rfl)) ev_f) (Calls.mono H ?_)
    clear H
    rintro _ w32 ⟨x31, rfl, H⟩
    refine ⟨_, rfl, ?_⟩
    obtain ⟨hs55, H⟩ := H
    refine and_keep (SS_off (by kernel_rfl) (SS_on hs55 SS_nil)) fun hS => ?_
    refine D_done (by kernel_rfl) ?_
    refine then_norm ?_
    refine hK29 _ _ ?_
    clear hK29
    refine c_seq ?_
    intro K34 hK34
    refine c_region ?_
    refine L_val (v := .int .i64 a_h2) (y_move (ev_tv rfl ((hag7 1 rfl).trans rfl))) ?_
    refine L_val (v := .pointer (some ⟨b24, 0 + 1, none⟩)) (Try.fa64_1 (ev_tv rfl rfl)) ?_
    obtain ⟨hi35, hi36, H⟩ := H
    refine L_val (v := .pointer (some ⟨b24, 0 + 1 + (a_h2 : Int).toNat * 1, none⟩)) (y_ixA Try.underlying62 Try.type4 rfl (ev_tv rfl rfl) (ev_tv rfl rfl) hi35 hi36) ?_
    obtain ⟨hc37, hf38, H⟩ := H
    obtain ⟨w33, hw39⟩ : ∃ w33 : World, w33 = World.setCell w32 ⟨b24, 0 + 1 + (a_h2 : Int).toNat * 1, none⟩ (.bool false) := ⟨_, rfl⟩
    replace H := H w33 hw39
    refine L_skip (y_store Try.type4 rfl rfl (ev_tv rfl rfl) ev_c hc37 hf38 hw39) ?_
    refine l_nil ?_
    refine then_norm ?_
    refine hK34 _ _ ?_
    clear hK34
    refine c_seq ?_
    intro K40 hK40
    refine c_region ?_
    refine L_val (v := .pointer (some ⟨b24, 0 + 1, none⟩)) (Try.fa64_1 (ev_tv rfl rfl)) ?_
    obtain ⟨x34, x35, x36, x37, x38, x39, x40, x41, hc41, H⟩ := H
    refine L_val (v := .agg #[.bool x34, .bool x35, .bool x36, .bool x37, .bool x38, .bool x39, .bool x40, .bool x41]) (y_loadAgg Try.underlying62 rfl Try.type62 rfl (ev_tv rfl rfl) hc41) ?_
    refine L_val (v := .agg #[.bool false, .bool false, .bool false, .bool false, .bool false, .bool false, .bool false, .bool false]) (y_build rfl (by kernel_rfl)) ?_
    obtain ⟨q42, hg43, hc42, H⟩ := H
    refine L_val (v := .bool q42) (y_eqv (ev_tv rfl rfl) (ev_tv rfl rfl) (hg43 _) (hc42 _)) ?_
    refine l_nil ?_
    refine then_norm ?_
    refine hK40 _ _ ?_
    clear hK40
    rcases Bool.eq_false_or_eq_true q42 with hb44 | hb44
    · replace H := H.1 hb44
      have hq45 : Value.bool (q42) = Value.bool true := congrArg Value.bool hb44
      refine cond_t (ev_tv rfl hq45) ?_
      refine c_region ?_
      refine L_val (v := .pointer (some ⟨b12, o13, none⟩)) (y_move (ev_tv rfl ((hag7 0 rfl).trans rfl))) ?_
      refine L_val (v := .pointer (some ⟨b12, o13, none⟩)) (y_nilCheck (ev_tv rfl rfl)) ?_
      refine L_val (v := .pointer (some ⟨b12, o13 + 3, none⟩)) (Try.fa56_3 (ev_tv rfl rfl)) ?_
      obtain ⟨x43, hc46, H⟩ := H
      refine L_val (v := .map x43) (y_load Try.underlying54 rfl (ev_tv rfl rfl) hc46) ?_
      refine L_val (v := .int .i64 x11) (y_move (ev_tv rfl rfl)) ?_
      obtain ⟨w44, hc47, H⟩ := H
      refine L_valn (v := .tuple #[]) (y_bi_delete (map_ev2 (ev_tv rfl rfl) (ev_tv rfl rfl)) hc47) ?_
      refine l_nil ?_
      refine block_norm ?_
      refine then_norm ?_
      refine hK16 _ _ ?_
      clear hK16
      refine c_region ?_
      obtain ⟨r45, hr48⟩ : ∃ r45 : Int, r45 = IntKind.wrap .i64 (v6 + 1) := ⟨_, rfl⟩
      replace H := H r45 hr48
      refine L_val (v := .int .i64 r45) (y_add (ev_tv rfl hs11) ev_c hr48) ?_
      refine L_val (v := .int .i64 r45) (y_move (ev_tv rfl rfl)) ?_
      refine l_nil ?_
      refine then_norm ?_
      obtain ⟨m46, hm49, H⟩ := H
      exact ⟨_, rfl, (by repeat (first | exact agree_refl | exact hag7 | refine agree_upd rfl ?_ | refine agree_via hag7 rfl ?_)), m46, hm49, _, rfl, H⟩
    · replace H := H.2 hb44
      have hq45 : Value.bool (q42) = Value.bool false := congrArg Value.bool hb44
      refine cond_f (ev_tv rfl hq45) ?_
      refine D_start Try.mixed rfl [6] ?_
      refine start_keep fun hS => ?_
      refine D_pure (i := 0) (v := .pointer (some ⟨b12, o13, none⟩)) rfl (by kernel_rfl) (W_none rfl) (fun _ => y_move (ev_tv rfl ((hag7 0 rfl).trans rfl))) hS ?_
      intro hS
      refine D_pure (i := 1) (v := .pointer (some ⟨b12, o13, none⟩)) rfl (by kernel_rfl) (W_none rfl) (fun _ => y_nilCheck (ev_tv rfl rfl)) hS ?_
      intro hS
      refine D_pure (i := 2) (v := .pointer (some ⟨b12, o13 + 3, none⟩)) rfl (by kernel_rfl) (W_none rfl) (fun _ => Try.fa56_3 (ev_tv rfl rfl)) hS ?_
      intro hS
      refine D_pure (i := 4) (v := .int .i64 x11) rfl (by kernel_rfl) (W_none rfl) (fun _ => y_move (ev_tv rfl rfl)) hS ?_
      intro hS
      obtain ⟨x47, hc50, H⟩ := H
      refine D_read (i := 3) (v := .map x47) rfl (by kernel_rfl) (W_none rfl) (fun wx => World.cell? wx ⟨b12, o13 + 3, none⟩ = some (.map x47)) hc50 (fun _ hcx => y_load Try.underlying54 rfl (ev_tv rfl rfl) hcx) hS ?_
      intro hS
      obtain ⟨x48, x49, x50, x51, x52, x53, x54, x55, x56, hc51, H⟩ := H
      refine D_read (i := 5) (v := .agg #[.int .i64 x48, .bool x49, .bool x50, .bool x51, .bool x52, .bool x53, .bool x54, .bool x55, .bool x56]) rfl (by kernel_rfl) (W_none rfl) (fun wx => CellsAt wx ⟨b24, 0, none⟩ [.int .i64 x48, .bool x49, .bool x50, .bool x51, .bool x52, .bool x53, .bool x54, .bool x55, .bool x56]) hc51 (fun _ hcx => y_loadAgg Try.underlying64 rfl Try.type64 rfl (ev_tv rfl rfl) hcx) hS ?_
      intro hS
      refine D_only (i := 6) (by kernel_rfl) rfl ?_
      obtain ⟨w57, hw52, H⟩ := H
      refine O_skip (i := 6) rfl (W_none rfl) (y_mapUpdate (ev_tv rfl rfl) (ev_tv rfl rfl) (ev_tv rfl rfl) hw52) ?_
      refine and_keep (SS_off (by kernel_rfl) (SS_off (by kernel_rfl) SS_nil)) fun hS => ?_
      refine D_done (by kernel_rfl) ?_
      refine block_norm ?_
      refine then_norm ?_
      refine hK16 _ _ ?_
      clear hK16
      refine c_region ?_
      obtain ⟨r58, hr53⟩ : ∃ r58 : Int, r58 = IntKind.wrap .i64 (v6 + 1) := ⟨_, rfl⟩
      replace H := H r58 hr53
      refine L_val (v := .int .i64 r58) (y_add (ev_tv rfl hs11) ev_c hr53) ?_
      refine L_val (v := .int .i64 r58) (y_move (ev_tv rfl rfl)) ?_
      refine l_nil ?_
      refine then_norm ?_
      obtain ⟨m59, hm54, H⟩ := H
      exact ⟨_, rfl, (by repeat (first | exact agree_refl | exact hag7 | refine agree_upd rfl ?_ | refine agree_via hag7 rfl ?_)), m59, hm54, _, rfl, H⟩
  · replace H := H.2 hb14
    have hq15 : Value.bool (decide ((v6 : Int) < ((x3l : Nat) : Int))) = Value.bool false := congrArg Value.bool (decide_eq_false hb14)
    refine cond_f (ev_tv rfl hq15) ?_
    refine c_exit ?_
    refine then_exit ?_
    refine then_exit ?_
    refine block_hit ?_
    refine then_norm ?_
    refine hK3 _ _ ?_
    clear hK3
    refine c_seq ?_
    intro K56 hK56
    refine c_region ?_
    refine L_val (v := .slice x3 x3l x3c) (y_move (ev_tv rfl ((hag7 5 rfl).trans rfl))) ?_
    refine L_val (v := .int .i64 ((x3l : Nat) : Int)) (y_len Try.underlying23 rfl (map_ev1 (ev_tv rfl rfl))) ?_
    refine L_val (v := .int .i64 ((x3l : Nat) : Int)) (y_assign (ev_tv rfl rfl)) ?_
    refine l_nil ?_
    refine then_norm ?_
    refine hK56 _ _ ?_
    clear hK56
    refine c_ret ?_
    exact body_1 rfl (ev_tv rfl rfl) H

/-- (parapet/tlb.Tlb).Kept -/
def Vc14 (a_t1 : Option Addr) (a_h2 : Int) (w : World) (R : Ending → World → Prop) : Prop :=
  (Calls Try.prog 20 #[.pointer a_t1, .int .i64 a_h2] w fun e w4 => ∃ x3 : Bool, e = .returned (.bool x3) ∧ (((x3 = true) → (∃ (b6 o7 : Nat), a_t1 = some ⟨b6, o7, none⟩ ∧ (∃ x8 : Option Addr, ∃ x8l : Nat, ∃ x8c : Nat, World.cell? w4 ⟨b6, o7 + 1, none⟩ = some (.slice x8 x8l x8c) ∧ (∃ (b9 o10 : Nat), x8 = some ⟨b9, o10, none⟩ ∧ ((0 : Int) ≤ a_h2 ∧ a_h2 < ((x8l : Nat) : Int) ∧ (∃ x11 : Option Addr, ∃ x11l : Nat, ∃ x11c : Nat, World.cell? w4 ⟨b9, o10 + (a_h2 : Int).toNat * 2 + 1, none⟩ = some (.slice x11 x11l x11c) ∧ (Calls Try.prog 24 #[.slice x11 x11l x11c] w4 fun e w13 => ∃ x12 : Option Addr, ∃ x12l : Nat, ∃ x12c : Nat, e = .returned (.slice x12 x12l x12c) ∧ R (.returned (.slice x12 x12l x12c)) w13))))))) ∧ ((x3 = false) → R (.returned (.slice none 0 0)) w4)))

theorem vc14 {a_t1 : Option Addr} {a_h2 : Int} {w : World} {R : Ending → World → Prop} (H : Vc14 a_t1 a_h2 w R) : Calls Try.prog 14 #[.pointer a_t1, .int .i64 a_h2] w R := by
  unfold Vc14 at H
  refine calls_start [.pointer a_t1, .int .i64 a_h2] Try.func14 rfl Try.ntmps14 rfl ?_
  refine c_seq ?_
  intro K1 hK1
  refine c_region ?_
  refine L_val (v := .slice none 0 0) (y_assign ev_c) ?_
  refine l_nil ?_
  refine then_norm ?_
  refine hK1 _ _ ?_
  clear hK1
  refine c_seq ?_
  intro K2 hK2
  refine c_seq ?_
  intro K3 hK3
  refine c_region ?_
  refine L_val (v := .pointer a_t1) (y_move (ev_tv rfl rfl)) ?_
  refine L_val (v := .int .i64 a_h2) (y_move (ev_tv rfl rfl)) ?_
  refine L_call (y_call Try.call20 (map_ev2 (ev_tv rfl rfl) (ev_tv rfl rfl)) ev_f) (Calls.mono H ?_)
  clear H
  rintro _ w4 ⟨x3, rfl, H⟩
  refine ⟨_, rfl, ?_⟩
  rcases Bool.eq_false_or_eq_true x3 with hb4 | hb4
  · replace H := H.1 hb4
    have hq5 : Value.bool (x3) = Value.bool true := congrArg Value.bool hb4
    refine L_val (v := .bool false) (y_not_t (ev_tv rfl hq5)) ?_
    refine l_nil ?_
    refine then_norm ?_
    refine hK3 _ _ ?_
    clear hK3
    refine cond_f (ev_tv rfl rfl) ?_
    refine c_skip ?_
    refine then_norm ?_
    refine hK2 _ _ ?_
    clear hK2
    refine c_seq ?_
    intro K6 hK6
    refine c_region ?_
    refine L_val (v := .pointer a_t1) (y_move (ev_tv rfl rfl)) ?_
    obtain ⟨b6, o7, rfl, H⟩ := H
    refine L_val (v := .pointer (some ⟨b6, o7, none⟩)) (y_nilCheck (ev_tv rfl rfl)) ?_
    refine L_val (v := .pointer (some ⟨b6, o7 + 1, none⟩)) (Try.fa56_1 (ev_tv rfl rfl)) ?_
    obtain ⟨x8, x8l, x8c, hc7, H⟩ := H
    refine L_val (v := .slice x8 x8l x8c) (y_load Try.underlying53 rfl (ev_tv rfl rfl) hc7) ?_
    refine L_val (v := .int .i64 a_h2) (y_move (ev_tv rfl rfl)) ?_
    obtain ⟨b9, o10, rfl, H⟩ := H
    obtain ⟨hi8, hi9, H⟩ := H
    refine L_val (v := .pointer (some ⟨b9, o10 + (a_h2 : Int).toNat * 2, none⟩)) (y_ix Try.underlying53 Try.type59 rfl (ev_tv rfl rfl) (ev_tv rfl rfl) hi8 hi9) ?_
    refine L_val (v := .pointer (some ⟨b9, o10 + (a_h2 : Int).toNat * 2 + 1, none⟩)) (Try.fa59_1 (ev_tv rfl rfl)) ?_
    obtain ⟨x11, x11l, x11c, hc10, H⟩ := H
    refine L_val (v := .slice x11 x11l x11c) (y_load Try.underlying40 rfl (ev_tv rfl rfl) hc10) ?_
    refine L_call (y_call Try.call24 (map_ev1 (ev_tv rfl rfl)) ev_f) (Calls.mono H ?_)
    clear H
    rintro _ w13 ⟨x12, x12l, x12c, rfl, H⟩
    refine ⟨_, rfl, ?_⟩
    refine L_val (v := .slice x12 x12l x12c) (y_assign (ev_tv rfl rfl)) ?_
    refine l_nil ?_
    refine then_norm ?_
    refine hK6 _ _ ?_
    clear hK6
    refine c_ret ?_
    exact body_1 rfl (ev_tv rfl rfl) H
  · replace H := H.2 hb4
    have hq5 : Value.bool (x3) = Value.bool false := congrArg Value.bool hb4
    refine L_val (v := .bool true) (y_not_f (ev_tv rfl hq5)) ?_
    refine l_nil ?_
    refine then_norm ?_
    refine hK3 _ _ ?_
    clear hK3
    refine cond_t (ev_tv rfl rfl) ?_
    refine c_seq ?_
    intro K11 hK11
    refine c_region ?_
    refine L_val (v := .slice none 0 0) (y_assign ev_c) ?_
    refine l_nil ?_
    refine then_norm ?_
    refine hK11 _ _ ?_
    clear hK11
    refine c_ret ?_
    refine then_ret ?_
    exact body_1 rfl (ev_tv rfl rfl) H

/-- (parapet/tlb.Tlb).Flush -/
def Vc15 (a_t1 : Option Addr) (a_h2 : Int) (a_space3 : Int) (w : World) (R : Ending → World → Prop) : Prop :=
  (Calls Try.prog 20 #[.pointer a_t1, .int .i64 a_h2] w fun e w5 => ∃ x4 : Bool, e = .returned (.bool x4) ∧ (((x4 = true) → (∃ (b7 o8 : Nat), a_t1 = some ⟨b7, o8, none⟩ ∧ (∃ x9 : Option Addr, ∃ x9l : Nat, ∃ x9c : Nat, World.cell? w5 ⟨b7, o8 + 1, none⟩ = some (.slice x9 x9l x9c) ∧ (∃ (b10 o11 : Nat), x9 = some ⟨b10, o11, none⟩ ∧ ((0 : Int) ≤ a_h2 ∧ a_h2 < ((x9l : Nat) : Int) ∧ (Calls Try.prog 23 #[.pointer (some ⟨b10, o11 + (a_h2 : Int).toNat * 2, none⟩), .int .i64 a_space3] w5 fun e w13 => ∃ x12 : Int, e = .returned (.int .i64 x12) ∧ R (.returned (.int .i64 x12)) w13)))))) ∧ ((x4 = false) → R (.returned (.int .i64 0)) w5)))

theorem vc15 {a_t1 : Option Addr} {a_h2 : Int} {a_space3 : Int} {w : World} {R : Ending → World → Prop} (H : Vc15 a_t1 a_h2 a_space3 w R) : Calls Try.prog 15 #[.pointer a_t1, .int .i64 a_h2, .int .i64 a_space3] w R := by
  unfold Vc15 at H
  refine calls_start [.pointer a_t1, .int .i64 a_h2, .int .i64 a_space3] Try.func15 rfl Try.ntmps15 rfl ?_
  refine c_seq ?_
  intro K1 hK1
  refine c_region ?_
  refine L_val (v := .int .i64 0) (y_assign ev_c) ?_
  refine l_nil ?_
  refine then_norm ?_
  refine hK1 _ _ ?_
  clear hK1
  refine c_seq ?_
  intro K2 hK2
  refine c_seq ?_
  intro K3 hK3
  refine c_region ?_
  refine L_val (v := .pointer a_t1) (y_move (ev_tv rfl rfl)) ?_
  refine L_val (v := .int .i64 a_h2) (y_move (ev_tv rfl rfl)) ?_
  refine L_call (y_call Try.call20 (map_ev2 (ev_tv rfl rfl) (ev_tv rfl rfl)) ev_f) (Calls.mono H ?_)
  clear H
  rintro _ w5 ⟨x4, rfl, H⟩
  refine ⟨_, rfl, ?_⟩
  rcases Bool.eq_false_or_eq_true x4 with hb4 | hb4
  · replace H := H.1 hb4
    have hq5 : Value.bool (x4) = Value.bool true := congrArg Value.bool hb4
    refine L_val (v := .bool false) (y_not_t (ev_tv rfl hq5)) ?_
    refine l_nil ?_
    refine then_norm ?_
    refine hK3 _ _ ?_
    clear hK3
    refine cond_f (ev_tv rfl rfl) ?_
    refine c_skip ?_
    refine then_norm ?_
    refine hK2 _ _ ?_
    clear hK2
    refine c_seq ?_
    intro K6 hK6
    refine c_region ?_
    refine L_val (v := .pointer a_t1) (y_move (ev_tv rfl rfl)) ?_
    obtain ⟨b7, o8, rfl, H⟩ := H
    refine L_val (v := .pointer (some ⟨b7, o8, none⟩)) (y_nilCheck (ev_tv rfl rfl)) ?_
    refine L_val (v := .pointer (some ⟨b7, o8 + 1, none⟩)) (Try.fa56_1 (ev_tv rfl rfl)) ?_
    obtain ⟨x9, x9l, x9c, hc7, H⟩ := H
    refine L_val (v := .slice x9 x9l x9c) (y_load Try.underlying53 rfl (ev_tv rfl rfl) hc7) ?_
    refine L_val (v := .int .i64 a_h2) (y_move (ev_tv rfl rfl)) ?_
    obtain ⟨b10, o11, rfl, H⟩ := H
    obtain ⟨hi8, hi9, H⟩ := H
    refine L_val (v := .pointer (some ⟨b10, o11 + (a_h2 : Int).toNat * 2, none⟩)) (y_ix Try.underlying53 Try.type59 rfl (ev_tv rfl rfl) (ev_tv rfl rfl) hi8 hi9) ?_
    refine L_val (v := .int .i64 a_space3) (y_move (ev_tv rfl rfl)) ?_
    refine L_call (y_call Try.call23 (map_ev2 (ev_tv rfl rfl) (ev_tv rfl rfl)) ev_f) (Calls.mono H ?_)
    clear H
    rintro _ w13 ⟨x12, rfl, H⟩
    refine ⟨_, rfl, ?_⟩
    refine L_val (v := .int .i64 x12) (y_assign (ev_tv rfl rfl)) ?_
    refine l_nil ?_
    refine then_norm ?_
    refine hK6 _ _ ?_
    clear hK6
    refine c_ret ?_
    exact body_1 rfl (ev_tv rfl rfl) H
  · replace H := H.2 hb4
    have hq5 : Value.bool (x4) = Value.bool false := congrArg Value.bool hb4
    refine L_val (v := .bool true) (y_not_f (ev_tv rfl hq5)) ?_
    refine l_nil ?_
    refine then_norm ?_
    refine hK3 _ _ ?_
    clear hK3
    refine cond_t (ev_tv rfl rfl) ?_
    refine c_seq ?_
    intro K10 hK10
    refine c_region ?_
    refine L_val (v := .int .i64 0) (y_assign ev_c) ?_
    refine l_nil ?_
    refine then_norm ?_
    refine hK10 _ _ ?_
    clear hK10
    refine c_ret ?_
    refine then_ret ?_
    exact body_1 rfl (ev_tv rfl rfl) H

/-- (parapet/tlb.Tlb).Look -/
def Vc16 (a_t1 : Option Addr) (a_h2 : Int) (a_k3 : Int) (a_k4 : Int) (w : World) (R : Ending → World → Prop) : Prop :=
  (∀ (b5 : Nat) (w6 : World), b5 = World.heapSize w → w6 = World.alloc w (.cells #[.int .i64 a_k3, .int .i64 a_k4] 31) → (Calls Try.prog 20 #[.pointer a_t1, .int .i64 a_h2] w6 fun e w8 => ∃ x7 : Bool, e = .returned (.bool x7) ∧ (((x7 = true) → (∃ (b10 o11 : Nat), a_t1 = some ⟨b10, o11, none⟩ ∧ (∃ x12 : Option Addr, ∃ x12l : Nat, ∃ x12c : Nat, World.cell? (w8.drew) ⟨b10, o11 + 1, none⟩ = some (.slice x12 x12l x12c) ∧ (∃ (b13 o14 : Nat), x12 = some ⟨b13, o14, none⟩ ∧ ((0 : Int) ≤ a_h2 ∧ a_h2 < ((x12l : Nat) : Int) ∧ (∃ x15 : Option Nat, World.cell? (w8.drew) ⟨b13, o14 + (a_h2 : Int).toNat * 2, none⟩ = some (.map x15) ∧ (∃ x16 : Int, ∃ x17 : Int, CellsAt (w8.drew) ⟨b5, 0, none⟩ [.int .i64 x16, .int .i64 x17] ∧ (∃ x18 : Int, ∃ ok19 : Bool, (Instr.lookup 57 (.map x15) (.agg #[.int .i64 x16, .int .i64 x17]) true).run Try.prog (w8.drew) = .ok (.tuple #[.int .u32 x18, .bool ok19]) (w8.drew) ∧ R (.returned (.tuple #[.int .u32 x18, .bool ok19])) (w8.drew))))))))) ∧ ((x7 = false) → R (.returned (.tuple #[.int .u32 0, .bool false])) w8))))

theorem vc16 {a_t1 : Option Addr} {a_h2 : Int} {a_k3 : Int} {a_k4 : Int} {w : World} {R : Ending → World → Prop} (H : Vc16 a_t1 a_h2 a_k3 a_k4 w R) : Calls Try.prog 16 #[.pointer a_t1, .int .i64 a_h2, .agg #[.int .i64 a_k3, .int .i64 a_k4]] w R := by
  unfold Vc16 at H
  refine calls_start [.pointer a_t1, .int .i64 a_h2, .agg #[.int .i64 a_k3, .int .i64 a_k4]] Try.func16 rfl Try.ntmps16 rfl ?_
  refine c_seq ?_
  intro K1 hK1
  refine c_region ?_
  obtain ⟨b5, hb2⟩ : ∃ b5 : Nat, b5 = World.heapSize w := ⟨_, rfl⟩
  obtain ⟨w6, hw3⟩ : ∃ w6 : World, w6 = World.alloc w (.cells #[.int .i64 a_k3, .int .i64 a_k4] 31) := ⟨_, rfl⟩
  replace H := H b5 w6 hb2 hw3
  refine L_val (v := .pointer (some ⟨b5, 0, none⟩)) (y_box (ev_tv rfl rfl) rfl hb2 hw3) ?_
  refine L_val (v := .int .u32 0) (y_assign ev_c) ?_
  refine L_val (v := .bool false) (y_assign ev_c) ?_
  refine l_nil ?_
  refine then_norm ?_
  refine hK1 _ _ ?_
  clear hK1
  refine c_seq ?_
  intro K4 hK4
  refine c_seq ?_
  intro K5 hK5
  refine c_region ?_
  refine L_val (v := .pointer a_t1) (y_move (ev_tv rfl rfl)) ?_
  refine L_val (v := .int .i64 a_h2) (y_move (ev_tv rfl rfl)) ?_
  refine L_call (y_call Try.call20 (map_ev2 (ev_tv rfl rfl) (ev_tv rfl rfl)) ev_f) (Calls.mono H ?_)
  clear H
  rintro _ w8 ⟨x7, rfl, H⟩
  refine ⟨_, rfl, ?_⟩
  rcases Bool.eq_false_or_eq_true x7 with hb6 | hb6
  · replace H := H.1 hb6
    have hq7 : Value.bool (x7) = Value.bool true := congrArg Value.bool hb6
    refine L_val (v := .bool false) (y_not_t (ev_tv rfl hq7)) ?_
    refine l_nil ?_
    refine then_norm ?_
    refine hK5 _ _ ?_
    clear hK5
    refine cond_f (ev_tv rfl rfl) ?_
    refine c_skip ?_
    refine then_norm ?_
    refine hK4 _ _ ?_
    clear hK4
    refine c_seq ?_
    intro K8 hK8
    refine D_start Try.mixed rfl [] ?_
    refine start_keep fun hS => ?_
    refine D_pure (i := 0) (v := .pointer a_t1) rfl (by kernel_rfl) (W_none rfl) (fun _ => y_move (ev_tv rfl rfl)) hS ?_
    intro hS
    obtain ⟨b10, o11, rfl, H⟩ := H
    refine D_pure (i := 1) (v := .pointer (some ⟨b10, o11, none⟩)) rfl (by kernel_rfl) (W_none rfl) (fun _ => y_nilCheck (ev_tv rfl rfl)) hS ?_
    intro hS
    refine D_pure (i := 2) (v := .pointer (some ⟨b10, o11 + 1, none⟩)) rfl (by kernel_rfl) (W_none rfl) (fun _ => Try.fa56_1 (ev_tv rfl rfl)) hS ?_
    intro hS
    refine D_pure (i := 4) (v := .int .i64 a_h2) rfl (by kernel_rfl) (W_none rfl) (fun _ => y_move (ev_tv rfl rfl)) hS ?_
    intro hS
    obtain ⟨x12, x12l, x12c, hc9, H⟩ := H
    refine D_read (i := 3) (v := .slice x12 x12l x12c) rfl (by kernel_rfl) (W_none rfl) (fun wx => World.cell? wx ⟨b10, o11 + 1, none⟩ = some (.slice x12 x12l x12c)) hc9 (fun _ hcx => y_load Try.underlying53 rfl (ev_tv rfl rfl) hcx) hS ?_
    intro hS
    obtain ⟨b13, o14, rfl, H⟩ := H
    obtain ⟨hi10, hi11, H⟩ := H
    refine D_pure (i := 5) (v := .pointer (some ⟨b13, o14 + (a_h2 : Int).toNat * 2, none⟩)) rfl (by kernel_rfl) (W_none rfl) (fun _ => y_ix Try.underlying53 Try.type59 rfl (ev_tv rfl rfl) (ev_tv rfl rfl) hi10 hi11) hS ?_
    intro hS
    refine D_pure (i := 6) (v := .pointer (some ⟨b13, o14 + (a_h2 : Int).toNat * 2, none⟩)) rfl (by kernel_rfl) (W_none rfl) (fun _ => Try.fa59_0 (ev_tv rfl rfl)) hS ?_
    intro hS
    obtain ⟨x15, hc12, H⟩ := H
    refine D_read (i := 7) (v := .map x15) rfl (by kernel_rfl) (W_none rfl) (fun wx => World.cell? wx ⟨b13, o14 + (a_h2 : Int).toNat * 2, none⟩ = some (.map x15)) hc12 (fun _ hcx => y_load Try.underlying57 rfl (ev_tv rfl rfl) hcx) hS ?_
    intro hS
    obtain ⟨x16, x17, hc13, H⟩ := H
    refine D_read (i := 8) (v := .agg #[.int .i64 x16, .int .i64 x17]) rfl (by kernel_rfl) (W_none rfl) (fun wx => CellsAt wx ⟨b5, 0, none⟩ [.int .i64 x16, .int .i64 x17]) hc13 (fun _ hcx => y_loadAgg Try.underlying31 rfl Try.type31 rfl (ev_tv rfl rfl) hcx) hS ?_
    intro hS
    obtain ⟨x18, ok19, hc14, H⟩ := H
    refine D_read (i := 9) (v := .tuple #[.int .u32 x18, .bool ok19]) rfl (by kernel_rfl) (W_none rfl) (fun wx => (Instr.lookup 57 (.map x15) (.agg #[.int .i64 x16, .int .i64 x17]) true).run Try.prog wx = .ok (.tuple #[.int .u32 x18, .bool ok19]) wx) hc14 (fun _ hcx => y_lookup (ev_tv rfl rfl) (ev_tv rfl rfl) hcx) hS ?_
    intro hS
    refine D_pure (i := 10) (v := .tuple #[.int .u32 x18, .bool ok19]) rfl (by kernel_rfl) (W_none rfl) (fun _ => y_move (ev_tv rfl rfl)) hS ?_
    intro hS
    refine D_pure (i := 11) (v := .int .u32 x18) rfl (by kernel_rfl) (W_none rfl) (fun _ => y_extract (ev_tv rfl rfl) rfl) hS ?_
    intro hS
    refine D_pure (i := 12) (v := .bool ok19) rfl (by kernel_rfl) (W_none rfl) (fun _ => y_extract (ev_tv rfl rfl) rfl) hS ?_
    intro hS
    refine D_pure (i := 13) (v := .int .u32 x18) rfl (by kernel_rfl) (W_none rfl) (fun _ => y_assign (ev_tv rfl rfl)) hS ?_
    intro hS
    refine D_pure (i := 14) (v := .bool ok19) rfl (by kernel_rfl) (W_none rfl) (fun _ => y_assign (ev_tv rfl rfl)) hS ?_
    intro hS
    refine D_done (by kernel_rfl) ?_
    refine then_norm ?_
    refine hK8 _ _ ?_
    clear hK8
    refine c_seq ?_
    intro K15 hK15
    refine c_region ?_
    refine L_val (v := .int .u32 x18) (y_move (ev_tv rfl rfl)) ?_
    refine L_val (v := .bool ok19) (y_move (ev_tv rfl rfl)) ?_
    refine L_val (v := .int .u32 x18) (y_assign (ev_tv rfl rfl)) ?_
    refine L_val (v := .bool ok19) (y_assign (ev_tv rfl rfl)) ?_
    refine l_nil ?_
    refine then_norm ?_
    refine hK15 _ _ ?_
    clear hK15
    refine c_ret ?_
    exact body_2 rfl (ev_tv rfl rfl) (ev_tv rfl rfl) H
  · replace H := H.2 hb6
    have hq7 : Value.bool (x7) = Value.bool false := congrArg Value.bool hb6
    refine L_val (v := .bool true) (y_not_f (ev_tv rfl hq7)) ?_
    refine l_nil ?_
    refine then_norm ?_
    refine hK5 _ _ ?_
    clear hK5
    refine cond_t (ev_tv rfl rfl) ?_
    refine c_seq ?_
    intro K16 hK16
    refine c_region ?_
    refine L_val (v := .int .u32 0) (y_assign ev_c) ?_
    refine L_val (v := .bool false) (y_assign ev_c) ?_
    refine l_nil ?_
    refine then_norm ?_
    refine hK16 _ _ ?_
    clear hK16
    refine c_ret ?_
    refine then_ret ?_
    exact body_2 rfl (ev_tv rfl rfl) (ev_tv rfl rfl) H

/-- (parapet/tlb.Tlb).is -/
def Vc20 (a_t1 : Option Addr) (a_h2 : Int) (w : World) (R : Ending → World → Prop) : Prop :=
  ((((0 : Int) ≤ a_h2) → (Calls Try.prog 33 #[.pointer a_t1] w fun e w4 => ∃ x3 : Int, e = .returned (.int .i64 x3) ∧ R (.returned (.bool (decide ((a_h2 : Int) < x3)))) w4)) ∧ ((¬ ((0 : Int) ≤ a_h2)) → R (.returned (.bool false)) w))

theorem vc20 {a_t1 : Option Addr} {a_h2 : Int} {w : World} {R : Ending → World → Prop} (H : Vc20 a_t1 a_h2 w R) : Calls Try.prog 20 #[.pointer a_t1, .int .i64 a_h2] w R := by
  unfold Vc20 at H
  refine calls_start [.pointer a_t1, .int .i64 a_h2] Try.func20 rfl Try.ntmps20 rfl ?_
  refine c_seq ?_
  intro K1 hK1
  refine c_region ?_
  refine L_val (v := .bool false) (y_assign ev_c) ?_
  refine l_nil ?_
  refine then_norm ?_
  refine hK1 _ _ ?_
  clear hK1
  refine c_seq ?_
  intro K2 hK2
  refine c_region ?_
  refine L_val (v := .int .i64 a_h2) (y_move (ev_tv rfl rfl)) ?_
  refine L_val (v := .bool (decide ((0 : Int) ≤ a_h2))) (y_geq (ev_tv rfl rfl) ev_c) ?_
  refine L_val (v := .bool (decide ((0 : Int) ≤ a_h2))) (y_move (ev_tv rfl rfl)) ?_
  rcases (Decidable.em ((0 : Int) ≤ a_h2)) with hb3 | hb3
  · replace H := H.1 hb3
    have hq4 : Value.bool (decide ((0 : Int) ≤ a_h2)) = Value.bool true := congrArg Value.bool (decide_eq_true hb3)
    refine G_val (dj := 7) rfl rfl hq4 (v := .int .i64 a_h2) (y_move (ev_tv rfl rfl)) ?_
    refine G_val (dj := 7) rfl rfl hq4 (v := .pointer a_t1) (y_move (ev_tv rfl rfl)) ?_
    refine G_call (dj := 7) rfl rfl hq4 (y_call Try.call33 (map_ev1 (ev_tv rfl rfl)) ev_f) (Calls.mono H ?_)
    clear H
    rintro _ w4 ⟨x3, rfl, H⟩
    refine ⟨_, rfl, ?_⟩
    refine G_val (dj := 7) rfl rfl hq4 (v := .bool (decide ((a_h2 : Int) < x3))) (y_lss (ev_tv rfl rfl) (ev_tv rfl rfl)) ?_
    refine L_val (v := .bool (decide ((a_h2 : Int) < x3))) (y_pick_t (ev_tv rfl hq4) (ev_tv rfl rfl)) ?_
    refine L_val (v := .bool (decide ((a_h2 : Int) < x3))) (y_assign (ev_tv rfl rfl)) ?_
    refine l_nil ?_
    refine then_norm ?_
    refine hK2 _ _ ?_
    clear hK2
    refine c_ret ?_
    exact body_1 rfl (ev_tv rfl rfl) H
  · replace H := H.2 hb3
    have hq4 : Value.bool (decide ((0 : Int) ≤ a_h2)) = Value.bool false := congrArg Value.bool (decide_eq_false hb3)
    refine G_not (b' := false) (dj := 7) rfl rfl hq4 rfl ?_
    refine G_not (b' := false) (dj := 7) rfl rfl hq4 rfl ?_
    refine G_not (b' := false) (dj := 7) rfl rfl hq4 rfl ?_
    refine G_not (b' := false) (dj := 7) rfl rfl hq4 rfl ?_
    refine L_val (v := .bool false) (y_pick_f (ev_tv rfl hq4) ev_c) ?_
    refine L_val (v := .bool false) (y_assign (ev_tv rfl rfl)) ?_
    refine l_nil ?_
    refine then_norm ?_
    refine hK2 _ _ ?_
    clear hK2
    refine c_ret ?_
    exact body_1 rfl (ev_tv rfl rfl) H

/-- slices.Delete[[]parapet/api.Key,parapet/api.Key] -/
def Vc21 (a_s1 : Option Addr) (a_s1l : Nat) (a_s1c : Nat) (a_i2 : Int) (a_j3 : Int) (w : World) (R : Ending → World → Prop) : Prop :=
  ((0 : Int) ≤ a_i2 ∧ (a_i2 : Int) ≤ a_j3 ∧ (a_j3 : Int) ≤ ((a_s1l : Nat) : Int) ∧ ((a_s1l : Nat) : Int) ≤ ((a_s1c : Nat) : Int) ∧ ∀ a4 : Option Addr, a4 = subA a_s1 2 (((a_s1l : Nat) : Int) : Int).toNat (a_i2 : Int).toNat → ((((a_i2 : Int) = a_j3) → R (.returned (.slice a_s1 a_s1l a_s1c)) w) ∧ ((¬ ((a_i2 : Int) = a_j3)) → ((0 : Int) ≤ a_i2 ∧ a_i2 ≤ ((a_s1c : Nat) : Int) ∧ ∀ a5 : Option Addr, a5 = a_s1 → ((0 : Int) ≤ a_j3 ∧ a_j3 ≤ ((a_s1l : Nat) : Int) ∧ ∀ a6 : Option Addr, a6 = subA a_s1 2 a_s1c (a_j3 : Int).toNat → (∃ x8 : Option Addr, ∃ x8l : Nat, ∃ x8c : Nat, ∃ w7 : World, (Builtin.append_ #[40, 40] 40 #[.slice a5 ((a_i2 : Int).toNat) a_s1c, .slice a6 (a_s1l - (a_j3 : Int).toNat) (a_s1c - (a_j3 : Int).toNat)]).run Try.prog (w.drew) = .ok (.slice x8 x8l x8c) w7 ∧ ((0 : Int) ≤ ((x8l : Nat) : Int) ∧ (((x8l : Nat) : Int) : Int) ≤ ((a_s1l : Nat) : Int) ∧ ((a_s1l : Nat) : Int) ≤ ((x8c : Nat) : Int) ∧ ∀ a9 : Option Addr, a9 = subA x8 2 x8c (((x8l : Nat) : Int) : Int).toNat → (∃ w10 : World, (Builtin.clear_ #[40] 0 #[.slice a9 ((((a_s1l : Nat) : Int) : Int).toNat - (((x8l : Nat) : Int) : Int).toNat) (x8c - (((x8l : Nat) : Int) : Int).toNat)]).run Try.prog w7 = .ok (.tuple #[]) w10 ∧ R (.returned (.slice x8 x8l x8c)) w10))))))))

theorem vc21 {a_s1 : Option Addr} {a_s1l : Nat} {a_s1c : Nat} {a_i2 : Int} {a_j3 : Int} {w : World} {R : Ending → World → Prop} (H : Vc21 a_s1 a_s1l a_s1c a_i2 a_j3 w R) : Calls Try.prog 21 #[.slice a_s1 a_s1l a_s1c, .int .i64 a_i2, .int .i64 a_j3] w R := by
  unfold Vc21 at H
  refine calls_start [.slice a_s1 a_s1l a_s1c, .int .i64 a_i2, .int .i64 a_j3] Try.func21 rfl Try.ntmps21 rfl ?_
  refine c_seq ?_
  intro K1 hK1
  refine c_region ?_
  refine L_val (v := .slice none 0 0) (y_assign ev_c) ?_
  refine l_nil ?_
  refine then_norm ?_
  refine hK1 _ _ ?_
  clear hK1
  refine c_seq ?_
  intro K2 hK2
  refine c_region ?_
  refine L_val (v := .slice a_s1 a_s1l a_s1c) (y_move (ev_tv rfl rfl)) ?_
  refine L_val (v := .int .i64 a_i2) (y_move (ev_tv rfl rfl)) ?_
  refine L_val (v := .int .i64 a_j3) (y_move (ev_tv rfl rfl)) ?_
  refine L_val (v := .slice a_s1 a_s1l a_s1c) (y_move (ev_tv rfl rfl)) ?_
  refine L_val (v := .int .i64 ((a_s1l : Nat) : Int)) (y_len Try.underlying40 rfl (map_ev1 (ev_tv rfl rfl))) ?_
  obtain ⟨hi4, hi5, hi6, hi7, H⟩ := H
  obtain ⟨a4, ha3⟩ : ∃ a4 : Option Addr, a4 = subA a_s1 2 (((a_s1l : Nat) : Int) : Int).toNat (a_i2 : Int).toNat := ⟨_, rfl⟩
  replace H := H a4 ha3
  refine L_val (v := .slice a4 ((a_j3 : Int).toNat - (a_i2 : Int).toNat) ((((a_s1l : Nat) : Int) : Int).toNat - (a_i2 : Int).toNat)) (y_sliceLHM Try.underlying40 Try.type31 rfl (ev_tv rfl rfl) (ev_tv rfl rfl) (ev_tv rfl rfl) (ev_tv rfl rfl) hi4 hi5 hi6 hi7 ha3) ?_
  refine l_nil ?_
  refine then_norm ?_
  refine hK2 _ _ ?_
  clear hK2
  refine c_seq ?_
  intro K8 hK8
  refine c_seq ?_
  intro K9 hK9
  refine c_region ?_
  refine L_val (v := .int .i64 a_i2) (y_move (ev_tv rfl rfl)) ?_
  refine L_val (v := .int .i64 a_j3) (y_move (ev_tv rfl rfl)) ?_
  refine L_val (v := .bool (decide ((a_i2 : Int) = a_j3))) (y_ieq (ev_tv rfl rfl) (ev_tv rfl rfl)) ?_
  refine l_nil ?_
  refine then_norm ?_
  refine hK9 _ _ ?_
  clear hK9
  rcases (Decidable.em ((a_i2 : Int) = a_j3)) with hb10 | hb10
  · replace H := H.1 hb10
    have hq11 : Value.bool (decide ((a_i2 : Int) = a_j3)) = Value.bool true := congrArg Value.bool (decide_eq_true hb10)
    refine cond_t (ev_tv rfl hq11) ?_
    refine c_seq ?_
    intro K12 hK12
    refine c_region ?_
    refine L_val (v := .slice a_s1 a_s1l a_s1c) (y_move (ev_tv rfl rfl)) ?_
    refine L_val (v := .slice a_s1 a_s1l a_s1c) (y_assign (ev_tv rfl rfl)) ?_
    refine l_nil ?_
    refine then_norm ?_
    refine hK12 _ _ ?_
    clear hK12
    refine c_ret ?_
    refine then_ret ?_
    exact body_1 rfl (ev_tv rfl rfl) H
  · replace H := H.2 hb10
    have hq11 : Value.bool (decide ((a_i2 : Int) = a_j3)) = Value.bool false := congrArg Value.bool (decide_eq_false hb10)
    refine cond_f (ev_tv rfl hq11) ?_
    refine c_skip ?_
    refine then_norm ?_
    refine hK8 _ _ ?_
    clear hK8
    refine c_seq ?_
    intro K13 hK13
    refine c_region ?_
    refine L_val (v := .slice a_s1 a_s1l a_s1c) (y_move (ev_tv rfl rfl)) ?_
    refine L_val (v := .int .i64 ((a_s1l : Nat) : Int)) (y_len Try.underlying40 rfl (map_ev1 (ev_tv rfl rfl))) ?_
    refine L_val (v := .int .i64 ((a_s1l : Nat) : Int)) (y_assign (ev_tv rfl rfl)) ?_
    refine l_nil ?_
    refine then_norm ?_
    refine hK13 _ _ ?_
    clear hK13
    refine c_seq ?_
    intro K14 hK14
    refine D_start Try.mixed rfl [6] ?_
    refine start_keep fun hS => ?_
    refine D_pure (i := 0) (v := .slice a_s1 a_s1l a_s1c) rfl (by kernel_rfl) (W_none rfl) (fun _ => y_move (ev_tv rfl rfl)) hS ?_
    intro hS
    refine D_pure (i := 1) (v := .int .i64 a_i2) rfl (by kernel_rfl) (W_none rfl) (fun _ => y_move (ev_tv rfl rfl)) hS ?_
    intro hS
    obtain ⟨hi16, hi17, H⟩ := H
    obtain ⟨a5, ha15⟩ : ∃ a5 : Option Addr, a5 = a_s1 := ⟨_, rfl⟩
    replace H := H a5 ha15
    refine D_pure (i := 2) (v := .slice a5 ((a_i2 : Int).toNat) a_s1c) rfl (by kernel_rfl) (W_none rfl) (fun _ => y_sliceH Try.underlying40 Try.type31 (ev_tv rfl rfl) (ev_tv rfl rfl) hi16 hi17 ha15) hS ?_
    intro hS
    refine D_pure (i := 3) (v := .slice a_s1 a_s1l a_s1c) rfl (by kernel_rfl) (W_none rfl) (fun _ => y_move (ev_tv rfl rfl)) hS ?_
    intro hS
    refine D_pure (i := 4) (v := .int .i64 a_j3) rfl (by kernel_rfl) (W_none rfl) (fun _ => y_move (ev_tv rfl rfl)) hS ?_
    intro hS
    obtain ⟨hi19, hi20, H⟩ := H
    obtain ⟨a6, ha18⟩ : ∃ a6 : Option Addr, a6 = subA a_s1 2 a_s1c (a_j3 : Int).toNat := ⟨_, rfl⟩
    replace H := H a6 ha18
    refine D_pure (i := 5) (v := .slice a6 (a_s1l - (a_j3 : Int).toNat) (a_s1c - (a_j3 : Int).toNat)) rfl (by kernel_rfl) (W_none rfl) (fun _ => y_sliceL Try.underlying40 Try.type31 rfl (ev_tv rfl rfl) (ev_tv rfl rfl) hi19 hi20 ha18) hS ?_
    intro hS
    refine D_only (i := 6) (by kernel_rfl) rfl ?_
    obtain ⟨x8, x8l, x8c, w7, hc21, H⟩ := H
    refine O_val (i := 6) (v := .slice x8 x8l x8c) rfl (W_none rfl) (y_bi_append (map_ev2 (ev_tv rfl rfl) (ev_tv rfl rfl)) hc21) ?_
    refine and_keep SS_nil fun hS => ?_
    refine D_pure (i := 7) (v := .slice x8 x8l x8c) rfl (by kernel_rfl) (W_none rfl) (fun _ => y_assign (ev_tv rfl rfl)) hS ?_
    intro hS
    refine D_done (by kernel_rfl) ?_
    refine then_norm ?_
    refine hK14 _ _ ?_
    clear hK14
    refine c_seq ?_
    intro K22 hK22
    refine c_region ?_
    refine L_val (v := .slice x8 x8l x8c) (y_move (ev_tv rfl rfl)) ?_
    refine L_val (v := .slice x8 x8l x8c) (y_move (ev_tv rfl rfl)) ?_
    refine L_val (v := .int .i64 ((x8l : Nat) : Int)) (y_len Try.underlying40 rfl (map_ev1 (ev_tv rfl rfl))) ?_
    refine L_val (v := .int .i64 ((a_s1l : Nat) : Int)) (y_move (ev_tv rfl rfl)) ?_
    obtain ⟨hi24, hi25, hi26, H⟩ := H
    obtain ⟨a9, ha23⟩ : ∃ a9 : Option Addr, a9 = subA x8 2 x8c (((x8l : Nat) : Int) : Int).toNat := ⟨_, rfl⟩
    replace H := H a9 ha23
    refine L_val (v := .slice a9 ((((a_s1l : Nat) : Int) : Int).toNat - (((x8l : Nat) : Int) : Int).toNat) (x8c - (((x8l : Nat) : Int) : Int).toNat)) (y_sliceLH Try.underlying40 Try.type31 rfl (ev_tv rfl rfl) (ev_tv rfl rfl) (ev_tv rfl rfl) hi24 hi25 hi26 ha23) ?_
    obtain ⟨w10, hc27, H⟩ := H
    refine L_valn (v := .tuple #[]) (y_bi_clear (map_ev1 (ev_tv rfl rfl)) hc27) ?_
    refine l_nil ?_
    refine then_norm ?_
    refine hK22 _ _ ?_
    clear hK22
    refine c_seq ?_
    intro K28 hK28
    refine c_region ?_
    refine L_val (v := .slice x8 x8l x8c) (y_move (ev_tv rfl rfl)) ?_
    refine L_val (v := .slice x8 x8l x8c) (y_assign (ev_tv rfl rfl)) ?_
    refine l_nil ?_
    refine then_norm ?_
    refine hK28 _ _ ?_
    clear hK28
    refine c_ret ?_
    exact body_1 rfl (ev_tv rfl rfl) H

/-- (parapet/tlb.hart).forget -/
def Vc23 (a_h1 : Option Addr) (a_space2 : Int) (w : World) (R : Ending → World → Prop) : Prop :=
  (∀ (b3 : Nat) (w4 : World), b3 = World.heapSize w → w4 = World.alloc w (.cells #[.int .i64 a_space2] 3) → (∃ (b5 o6 : Nat), a_h1 = some ⟨b5, o6, none⟩ ∧ (∃ x7 : Option Addr, ∃ x7l : Nat, ∃ x7c : Nat, World.cell? w4 ⟨b5, o6 + 1, none⟩ = some (.slice x7 x7l x7c) ∧ (∃ x8 : Option Addr, ∃ x8l : Nat, ∃ x8c : Nat, World.cell? w4 ⟨b5, o6 + 1, none⟩ = some (.slice x8 x8l x8c) ∧ (Calls Try.prog 37 #[.slice x8 x8l x8c, .func (.func 38) #[] #[.pointer (some ⟨b3, 0, none⟩)]] w4 fun e w10 => ∃ x9 : Option Addr, ∃ x9l : Nat, ∃ x9c : Nat, e = .returned (.slice x9 x9l x9c) ∧ ((World.cell? w10 ⟨b5, o6 + 1, none⟩).isSome = true ∧ World.frozen? w10 ⟨b5, o6 + 1, none⟩ = false ∧ ∀ w12 : World, w12 = World.setCell w10 ⟨b5, o6 + 1, none⟩ (.slice x9 x9l x9c) → (∃ x13 : Option Nat, World.cell? w12 ⟨b5, o6, none⟩ = some (.map x13) ∧ (Calls Try.prog 39 #[.map x13, .func (.func 40) #[] #[.pointer (some ⟨b3, 0, none⟩)]] w12 fun e w14 => e = .returned (.tuple #[]) ∧ (∃ x16 : Option Addr, ∃ x16l : Nat, ∃ x16c : Nat, World.cell? w14 ⟨b5, o6 + 1, none⟩ = some (.slice x16 x16l x16c) ∧ (∀ r17 : Int, r17 = IntKind.wrap .i64 (((x7l : Nat) : Int) - ((x16l : Nat) : Int)) → R (.returned (.int .i64 r17)) w14))))))))))

theorem vc23 {a_h1 : Option Addr} {a_space2 : Int} {w : World} {R : Ending → World → Prop} (H : Vc23 a_h1 a_space2 w R) : Calls Try.prog 23 #[.pointer a_h1, .int .i64 a_space2] w R := by
  unfold Vc23 at H
  refine calls_start [.pointer a_h1, .int .i64 a_space2] Try.func23 rfl Try.ntmps23 rfl ?_
  refine c_seq ?_
  intro K1 hK1
  refine c_region ?_
  obtain ⟨b3, hb2⟩ : ∃ b3 : Nat, b3 = World.heapSize w := ⟨_, rfl⟩
  obtain ⟨w4, hw3⟩ : ∃ w4 : World, w4 = World.alloc w (.cells #[.int .i64 a_space2] 3) := ⟨_, rfl⟩
  replace H := H b3 w4 hb2 hw3
  refine L_val (v := .pointer (some ⟨b3, 0, none⟩)) (y_box (ev_tv rfl rfl) rfl hb2 hw3) ?_
  refine L_val (v := .int .i64 0) (y_assign ev_c) ?_
  refine l_nil ?_
  refine then_norm ?_
  refine hK1 _ _ ?_
  clear hK1
  refine c_seq ?_
  intro K4 hK4
  refine c_region ?_
  refine L_val (v := .pointer a_h1) (y_move (ev_tv rfl rfl)) ?_
  obtain ⟨b5, o6, rfl, H⟩ := H
  refine L_val (v := .pointer (some ⟨b5, o6, none⟩)) (y_nilCheck (ev_tv rfl rfl)) ?_
  refine L_val (v := .pointer (some ⟨b5, o6 + 1, none⟩)) (Try.fa59_1 (ev_tv rfl rfl)) ?_
  obtain ⟨x7, x7l, x7c, hc5, H⟩ := H
  refine L_val (v := .slice x7 x7l x7c) (y_load Try.underlying40 rfl (ev_tv rfl rfl) hc5) ?_
  refine L_val (v := .int .i64 ((x7l : Nat) : Int)) (y_len Try.underlying40 rfl (map_ev1 (ev_tv rfl rfl))) ?_
  refine L_val (v := .int .i64 ((x7l : Nat) : Int)) (y_assign (ev_tv rfl rfl)) ?_
  refine l_nil ?_
  refine then_norm ?_
  refine hK4 _ _ ?_
  clear hK4
  refine c_seq ?_
  intro K6 hK6
  refine c_region ?_
  refine L_val (v := .pointer (some ⟨b5, o6, none⟩)) (y_move (ev_tv rfl rfl)) ?_
  refine L_val (v := .pointer (some ⟨b5, o6, none⟩)) (y_move (ev_tv rfl rfl)) ?_
  refine L_val (v := .pointer (some ⟨b5, o6, none⟩)) (y_nilCheck (ev_tv rfl rfl)) ?_
  refine L_val (v := .pointer (some ⟨b5, o6 + 1, none⟩)) (Try.fa59_1 (ev_tv rfl rfl)) ?_
  obtain ⟨x8, x8l, x8c, hc7, H⟩ := H
  refine L_val (v := .slice x8 x8l x8c) (y_load Try.underlying40 rfl (ev_tv rfl rfl) hc7) ?_
  refine L_val (v := .func (.func 38) #[] #[.pointer (some ⟨b3, 0, none⟩)]) (y_makeFunc map_ev0 (map_ev1 (ev_tv rfl rfl))) ?_
  refine L_call (y_call Try.call37 (map_ev2 (ev_tv rfl rfl) (ev_tv rfl rfl)) ev_f) (Calls.mono H ?_)
  clear H
  rintro _ w10 ⟨x9, x9l, x9c, rfl, H⟩
  refine ⟨_, rfl, ?_⟩
  refine L_val (v := .pointer (some ⟨b5, o6, none⟩)) (y_nilCheck (ev_tv rfl rfl)) ?_
  refine L_val (v := .pointer (some ⟨b5, o6 + 1, none⟩)) (Try.fa59_1 (ev_tv rfl rfl)) ?_
  obtain ⟨hc8, hf9, H⟩ := H
  obtain ⟨w12, hw10⟩ : ∃ w12 : World, w12 = World.setCell w10 ⟨b5, o6 + 1, none⟩ (.slice x9 x9l x9c) := ⟨_, rfl⟩
  replace H := H w12 hw10
  refine L_skip (y_store Try.type40 rfl rfl (ev_tv rfl rfl) (ev_tv rfl rfl) hc8 hf9 hw10) ?_
  refine l_nil ?_
  refine then_norm ?_
  refine hK6 _ _ ?_
  clear hK6
  refine c_seq ?_
  intro K11 hK11
  refine c_region ?_
  refine L_val (v := .pointer (some ⟨b5, o6, none⟩)) (y_move (ev_tv rfl rfl)) ?_
  refine L_val (v := .pointer (some ⟨b5, o6, none⟩)) (y_nilCheck (ev_tv rfl rfl)) ?_
  refine L_val (v := .pointer (some ⟨b5, o6, none⟩)) (Try.fa59_0 (ev_tv rfl rfl)) ?_
  obtain ⟨x13, hc12, H⟩ := H
  refine L_val (v := .map x13) (y_load Try.underlying57 rfl (ev_tv rfl rfl) hc12) ?_
  refine L_val (v := .func (.func 40) #[] #[.pointer (some ⟨b3, 0, none⟩)]) (y_makeFunc map_ev0 (map_ev1 (ev_tv rfl rfl))) ?_
  refine L_call (y_call Try.call39 (map_ev2 (ev_tv rfl rfl) (ev_tv rfl rfl)) ev_f) (Calls.mono H ?_)
  clear H
  rintro _ w14 ⟨rfl, H⟩
  refine ⟨_, rfl, ?_⟩
  refine l_nil ?_
  refine then_norm ?_
  refine hK11 _ _ ?_
  clear hK11
  refine c_seq ?_
  intro K13 hK13
  refine c_region ?_
  refine L_val (v := .int .i64 ((x7l : Nat) : Int)) (y_move (ev_tv rfl rfl)) ?_
  refine L_val (v := .pointer (some ⟨b5, o6, none⟩)) (y_move (ev_tv rfl rfl)) ?_
  refine L_val (v := .pointer (some ⟨b5, o6, none⟩)) (y_nilCheck (ev_tv rfl rfl)) ?_
  refine L_val (v := .pointer (some ⟨b5, o6 + 1, none⟩)) (Try.fa59_1 (ev_tv rfl rfl)) ?_
  obtain ⟨x16, x16l, x16c, hc14, H⟩ := H
  refine L_val (v := .slice x16 x16l x16c) (y_load Try.underlying40 rfl (ev_tv rfl rfl) hc14) ?_
  refine L_val (v := .int .i64 ((x16l : Nat) : Int)) (y_len Try.underlying40 rfl (map_ev1 (ev_tv rfl rfl))) ?_
  obtain ⟨r17, hr15⟩ : ∃ r17 : Int, r17 = IntKind.wrap .i64 (((x7l : Nat) : Int) - ((x16l : Nat) : Int)) := ⟨_, rfl⟩
  replace H := H r17 hr15
  refine L_val (v := .int .i64 r17) (y_sub (ev_tv rfl rfl) (ev_tv rfl rfl) hr15) ?_
  refine L_val (v := .int .i64 r17) (y_assign (ev_tv rfl rfl)) ?_
  refine l_nil ?_
  refine then_norm ?_
  refine hK13 _ _ ?_
  clear hK13
  refine c_ret ?_
  exact body_1 rfl (ev_tv rfl rfl) H

/-- slices.Clone[[]parapet/api.Key,parapet/api.Key] -/
def Vc24 (a_s1 : Option Addr) (a_s1l : Nat) (a_s1c : Nat) (w : World) (R : Ending → World → Prop) : Prop :=
  (((a_s1 = none) → R (.returned (.slice none 0 0)) w) ∧ ((a_s1 ≠ none) → (∀ (b2 : Nat) (w3 : World), b2 = World.heapSize w → w3 = World.alloc w (.cells #[] 31) → (∃ x5 : Option Addr, ∃ x5l : Nat, ∃ x5c : Nat, ∃ w4 : World, (Builtin.append_ #[40, 40] 40 #[.slice (some ⟨b2, 0, none⟩) 0 0, .slice a_s1 a_s1l a_s1c]).run Try.prog w3 = .ok (.slice x5 x5l x5c) w4 ∧ R (.returned (.slice x5 x5l x5c)) w4))))

theorem vc24 {a_s1 : Option Addr} {a_s1l : Nat} {a_s1c : Nat} {w : World} {R : Ending → World → Prop} (H : Vc24 a_s1 a_s1l a_s1c w R) : Calls Try.prog 24 #[.slice a_s1 a_s1l a_s1c] w R := by
  unfold Vc24 at H
  refine calls_start [.slice a_s1 a_s1l a_s1c] Try.func24 rfl Try.ntmps24 rfl ?_
  refine c_seq ?_
  intro K1 hK1
  refine c_region ?_
  refine L_val (v := .slice none 0 0) (y_assign ev_c) ?_
  refine l_nil ?_
  refine then_norm ?_
  refine hK1 _ _ ?_
  clear hK1
  refine c_seq ?_
  intro K2 hK2
  refine c_seq ?_
  intro K3 hK3
  refine c_region ?_
  refine L_val (v := .slice a_s1 a_s1l a_s1c) (y_move (ev_tv rfl rfl)) ?_
  refine L_val (v := .bool (a_s1.isNone)) (y_sleq Try.underlying40 (ev_tv rfl rfl) ev_c) ?_
  refine l_nil ?_
  refine then_norm ?_
  refine hK3 _ _ ?_
  clear hK3
  rcases (Classical.em (a_s1 = none)) with hb4 | hb4
  · replace H := H.1 hb4
    have hq5 : Value.bool (a_s1.isNone) = Value.bool true := congrArg Value.bool (isn_t hb4)
    refine cond_t (ev_tv rfl hq5) ?_
    refine c_seq ?_
    intro K6 hK6
    refine c_region ?_
    refine L_val (v := .slice none 0 0) (y_assign ev_c) ?_
    refine l_nil ?_
    refine then_norm ?_
    refine hK6 _ _ ?_
    clear hK6
    refine c_ret ?_
    refine then_ret ?_
    exact body_1 rfl (ev_tv rfl rfl) H
  · replace H := H.2 hb4
    have hq5 : Value.bool (a_s1.isNone) = Value.bool false := congrArg Value.bool (isn_f hb4)
    refine cond_f (ev_tv rfl hq5) ?_
    refine c_skip ?_
    refine then_norm ?_
    refine hK2 _ _ ?_
    clear hK2
    refine c_seq ?_
    intro K7 hK7
    refine c_region ?_
    obtain ⟨b2, hb8⟩ : ∃ b2 : Nat, b2 = World.heapSize w := ⟨_, rfl⟩
    obtain ⟨w3, hw9⟩ : ∃ w3 : World, w3 = World.alloc w (.cells #[] 31) := ⟨_, rfl⟩
    replace H := H b2 w3 hb8 hw9
    refine L_val (v := .slice (some ⟨b2, 0, none⟩) 0 0) (y_buildSlice rfl hb8 hw9 (by kernel_rfl)) ?_
    refine L_val (v := .slice a_s1 a_s1l a_s1c) (y_move (ev_tv rfl rfl)) ?_
    obtain ⟨x5, x5l, x5c, w4, hc10, H⟩ := H
    refine L_val (v := .slice x5 x5l x5c) (y_bi_append (map_ev2 (ev_tv rfl rfl) (ev_tv rfl rfl)) hc10) ?_
    refine L_val (v := .slice x5 x5l x5c) (y_assign (ev_tv rfl rfl)) ?_
    refine l_nil ?_
    refine then_norm ?_
    refine hK7 _ _ ?_
    clear hK7
    refine c_ret ?_
    exact body_1 rfl (ev_tv rfl rfl) H

/-- (parapet/tlb.Tlb).Harts -/
def Vc33 (a_t1 : Option Addr) (w : World) (R : Ending → World → Prop) : Prop :=
  (((a_t1 = none) → R (.returned (.int .i64 0)) w) ∧ ((a_t1 ≠ none) → (∃ (b2 o3 : Nat), a_t1 = some ⟨b2, o3, none⟩ ∧ (∃ x4 : Option Addr, ∃ x4l : Nat, ∃ x4c : Nat, World.cell? w ⟨b2, o3 + 1, none⟩ = some (.slice x4 x4l x4c) ∧ R (.returned (.int .i64 ((x4l : Nat) : Int))) w))))

theorem vc33 {a_t1 : Option Addr} {w : World} {R : Ending → World → Prop} (H : Vc33 a_t1 w R) : Calls Try.prog 33 #[.pointer a_t1] w R := by
  unfold Vc33 at H
  refine calls_start [.pointer a_t1] Try.func33 rfl Try.ntmps33 rfl ?_
  refine c_seq ?_
  intro K1 hK1
  refine c_region ?_
  refine L_val (v := .int .i64 0) (y_assign ev_c) ?_
  refine l_nil ?_
  refine then_norm ?_
  refine hK1 _ _ ?_
  clear hK1
  refine c_seq ?_
  intro K2 hK2
  refine c_seq ?_
  intro K3 hK3
  refine c_region ?_
  refine L_val (v := .pointer a_t1) (y_move (ev_tv rfl rfl)) ?_
  refine L_val (v := .bool (a_t1.isNone)) (y_peq Try.underlying24 (ev_tv rfl rfl) ev_c) ?_
  refine l_nil ?_
  refine then_norm ?_
  refine hK3 _ _ ?_
  clear hK3
  rcases (Classical.em (a_t1 = none)) with hb4 | hb4
  · replace H := H.1 hb4
    have hq5 : Value.bool (a_t1.isNone) = Value.bool true := congrArg Value.bool (isn_t hb4)
    refine cond_t (ev_tv rfl hq5) ?_
    refine c_seq ?_
    intro K6 hK6
    refine c_region ?_
    refine L_val (v := .int .i64 0) (y_assign ev_c) ?_
    refine l_nil ?_
    refine then_norm ?_
    refine hK6 _ _ ?_
    clear hK6
    refine c_ret ?_
    refine then_ret ?_
    exact body_1 rfl (ev_tv rfl rfl) H
  · replace H := H.2 hb4
    have hq5 : Value.bool (a_t1.isNone) = Value.bool false := congrArg Value.bool (isn_f hb4)
    refine cond_f (ev_tv rfl hq5) ?_
    refine c_skip ?_
    refine then_norm ?_
    refine hK2 _ _ ?_
    clear hK2
    refine c_seq ?_
    intro K7 hK7
    refine c_region ?_
    refine L_val (v := .pointer a_t1) (y_move (ev_tv rfl rfl)) ?_
    obtain ⟨b2, o3, rfl, H⟩ := H
    refine L_val (v := .pointer (some ⟨b2, o3, none⟩)) (y_nilCheck (ev_tv rfl rfl)) ?_
    refine L_val (v := .pointer (some ⟨b2, o3 + 1, none⟩)) (Try.fa56_1 (ev_tv rfl rfl)) ?_
    obtain ⟨x4, x4l, x4c, hc8, H⟩ := H
    refine L_val (v := .slice x4 x4l x4c) (y_load Try.underlying53 rfl (ev_tv rfl rfl) hc8) ?_
    refine L_val (v := .int .i64 ((x4l : Nat) : Int)) (y_len Try.underlying53 rfl (map_ev1 (ev_tv rfl rfl))) ?_
    refine L_val (v := .int .i64 ((x4l : Nat) : Int)) (y_assign (ev_tv rfl rfl)) ?_
    refine l_nil ?_
    refine then_norm ?_
    refine hK7 _ _ ?_
    clear hK7
    refine c_ret ?_
    exact body_1 rfl (ev_tv rfl rfl) H

/-- slices.DeleteFunc[[]parapet/api.Key,parapet/api.Key] -/
def Vc37 (a_s1 : Option Addr) (a_s1l : Nat) (a_s1c : Nat) (a_del2 : Value) (w : World) (R : Ending → World → Prop) : Prop :=
  (Calls Try.prog 54 #[.slice a_s1 a_s1l a_s1c, a_del2] w fun e w4 => ∃ x3 : Int, e = .returned (.int .i64 x3) ∧ ((((x3 : Int) = (-1)) → R (.returned (.slice a_s1 a_s1l a_s1c)) w4) ∧ ((¬ ((x3 : Int) = (-1))) → (∃ J8 : Int → World → Prop, (∀ (v6 : Int) (w7 : World), J8 v6 w7 → ((0 : Int) ≤ v6 ∧ v6 ≤ ((a_s1l : Nat) : Int) ∧ ∀ a8 : Option Addr, a8 = subA a_s1 2 a_s1c (v6 : Int).toNat → (∃ w9 : World, (Builtin.clear_ #[40] 0 #[.slice a8 (a_s1l - (v6 : Int).toNat) (a_s1c - (v6 : Int).toNat)]).run Try.prog w7 = .ok (.tuple #[]) w9 ∧ ((0 : Int) ≤ v6 ∧ v6 ≤ ((a_s1c : Nat) : Int) ∧ ∀ a10 : Option Addr, a10 = a_s1 → R (.returned (.slice a10 ((v6 : Int).toNat) a_s1c)) w9)))) ∧ (∀ r11 : Int, r11 = IntKind.wrap .i64 (x3 + 1) → (∃ I26 : Nat → Int → Int → World → Prop, (∃ m, I26 m x3 r11 w4) ∧ ∀ (m14 : Nat) (v12 : Int) (v13 : Int) (w15 : World), I26 m14 v12 v13 w15 → ((((v13 : Int) < ((a_s1l : Nat) : Int)) → (∃ (b16 o17 : Nat), a_s1 = some ⟨b16, o17, none⟩ ∧ ((0 : Int) ≤ v13 ∧ v13 < ((a_s1l : Nat) : Int) ∧ (∃ x18 : Int, ∃ x19 : Int, CellsAt w15 ⟨b16, o17 + (v13 : Int).toNat * 2, none⟩ [.int .i64 x18, .int .i64 x19] ∧ (∀ (b20 : Nat) (w21 : World), b20 = World.heapSize w15 → w21 = World.alloc w15 (.cells #[.int .i64 0, .int .i64 0] 31) → ((∀ j, j < 2 → (World.cell? w21 (Addr.add ⟨b20, 0, none⟩ j)).isSome = true ∧ World.frozen? w21 (Addr.add ⟨b20, 0, none⟩ j) = false) ∧ ∀ w22 : World, w22 = putCells w21 ⟨b20, 0, none⟩ [.int .i64 x18, .int .i64 x19] 0 → (∃ x23 : Int, ∃ x24 : Int, CellsAt w22 ⟨b20, 0, none⟩ [.int .i64 x23, .int .i64 x24] ∧ (Invoke Try.prog a_del2 #[.agg #[.int .i64 x23, .int .i64 x24]] w22 fun e w26 => ∃ x25 : Bool, e = .returned (.bool x25) ∧ (((x25 = true) → (∀ r28 : Int, r28 = IntKind.wrap .i64 (v13 + 1) → (∃ m29, m29 < m14 ∧ I26 m29 v12 r28 w26))) ∧ ((x25 = false) → (∃ x30 : Int, ∃ x31 : Int, CellsAt w26 ⟨b20, 0, none⟩ [.int .i64 x30, .int .i64 x31] ∧ ((0 : Int) ≤ v12 ∧ v12 < ((a_s1l : Nat) : Int) ∧ ((∀ j, j < 2 → (World.cell? w26 (Addr.add ⟨b16, o17 + (v12 : Int).toNat * 2, none⟩ j)).isSome = true ∧ World.frozen? w26 (Addr.add ⟨b16, o17 + (v12 : Int).toNat * 2, none⟩ j) = false) ∧ ∀ w32 : World, w32 = putCells w26 ⟨b16, o17 + (v12 : Int).toNat * 2, none⟩ [.int .i64 x30, .int .i64 x31] 0 → (∀ r33 : Int, r33 = IntKind.wrap .i64 (v12 + 1) → (∀ r34 : Int, r34 = IntKind.wrap .i64 (v13 + 1) → (∃ m35, m35 < m14 ∧ I26 m35 r33 r34 w32)))))))))))))))) ∧ ((¬ ((v13 : Int) < ((a_s1l : Nat) : Int))) → J8 v12 w15))))))))

theorem vc37 {a_s1 : Option Addr} {a_s1l : Nat} {a_s1c : Nat} {a_del2 : Value} {w : World} {R : Ending → World → Prop} (H : Vc37 a_s1 a_s1l a_s1c a_del2 w R) : Calls Try.prog 37 #[.slice a_s1 a_s1l a_s1c, a_del2] w R := by
  unfold Vc37 at H
  refine calls_start [.slice a_s1 a_s1l a_s1c, a_del2] Try.func37 rfl Try.ntmps37 rfl ?_
  refine c_seq ?_
  intro K1 hK1
  refine c_region ?_
  refine L_val (v := .slice none 0 0) (y_assign ev_c) ?_
  refine l_nil ?_
  refine then_norm ?_
  refine hK1 _ _ ?_
  clear hK1
  refine c_seq ?_
  intro K2 hK2
  refine c_region ?_
  refine L_val (v := .slice a_s1 a_s1l a_s1c) (y_move (ev_tv rfl rfl)) ?_
  refine L_val (v := a_del2) (y_move (ev_tv rfl rfl)) ?_
  refine L_call (y_call Try.call54 (map_ev2 (ev_tv rfl rfl) (ev_tv rfl rfl)) ev_f) (Calls.mono H ?_)
  clear H
  rintro _ w4 ⟨x3, rfl, H⟩
  refine ⟨_, rfl, ?_⟩
  refine L_val (v := .int .i64 x3) (y_assign (ev_tv rfl rfl)) ?_
  refine l_nil ?_
  refine then_norm ?_
  refine hK2 _ _ ?_
  clear hK2
  refine c_seq ?_
  intro K3 hK3
  refine c_seq ?_
  intro K4 hK4
  refine c_region ?_
  refine L_val (v := .int .i64 x3) (y_move (ev_tv rfl rfl)) ?_
  refine L_val (v := .bool (decide ((x3 : Int) = (-1)))) (y_ieq (ev_tv rfl rfl) ev_c) ?_
  refine l_nil ?_
  refine then_norm ?_
  refine hK4 _ _ ?_
  clear hK4
  rcases (Decidable.em ((x3 : Int) = (-1))) with hb5 | hb5
  · replace H := H.1 hb5
    have hq6 : Value.bool (decide ((x3 : Int) = (-1))) = Value.bool true := congrArg Value.bool (decide_eq_true hb5)
    refine cond_t (ev_tv rfl hq6) ?_
    refine c_seq ?_
    intro K7 hK7
    refine c_region ?_
    refine L_val (v := .slice a_s1 a_s1l a_s1c) (y_move (ev_tv rfl rfl)) ?_
    refine L_val (v := .slice a_s1 a_s1l a_s1c) (y_assign (ev_tv rfl rfl)) ?_
    refine l_nil ?_
    refine then_norm ?_
    refine hK7 _ _ ?_
    clear hK7
    refine c_ret ?_
    refine then_ret ?_
    exact body_1 rfl (ev_tv rfl rfl) H
  · replace H := H.2 hb5
    have hq6 : Value.bool (decide ((x3 : Int) = (-1))) = Value.bool false := congrArg Value.bool (decide_eq_false hb5)
    refine cond_f (ev_tv rfl hq6) ?_
    refine c_skip ?_
    refine then_norm ?_
    refine hK3 _ _ ?_
    clear hK3
    obtain ⟨J8, hJ9, H⟩ := H
    refine c_seqJ [(5, 7), (14, 35)] (fun ff ww => ∃ (v6 : Int), ff 5 = (.int .i64 v6 : Value) ∧ J8 v6 ww) ?_ ?_
    · clear hJ9
      intro K13 hK13
      refine c_seq ?_
      intro K24 hK24
      refine c_region ?_
      refine L_val (v := .int .i64 x3) (y_move (ev_tv rfl rfl)) ?_
      obtain ⟨r11, hr25⟩ : ∃ r11 : Int, r11 = IntKind.wrap .i64 (x3 + 1) := ⟨_, rfl⟩
      replace H := H r11 hr25
      refine L_val (v := .int .i64 r11) (y_add (ev_tv rfl rfl) ev_c hr25) ?_
      refine L_val (v := .int .i64 r11) (y_assign (ev_tv rfl rfl)) ?_
      refine l_nil ?_
      refine then_norm ?_
      refine hK24 _ _ ?_
      clear hK24
      refine c_block ?_
      obtain ⟨I26, ⟨m30, HI31⟩, H⟩ := H
      refine loop_fr ([(5, 7), (16, 35)]) (fun m ff ww => ∃ (v12 : Int) (v13 : Int), ff 5 = (.int .i64 v12 : Value) ∧ ff 6 = (.int .i64 v13 : Value) ∧ I26 m v12 v13 ww) m30 ⟨x3, r11, rfl, rfl, HI31⟩ ?_
      rintro m14 f27 w15 hag28 ⟨v12, v13, hs32, hs33, HI29⟩
      replace H := H m14 v12 v13 w15 HI29
      refine c_seq ?_
      intro K34 hK34
      refine c_seq ?_
      intro K35 hK35
      refine c_region ?_
      refine L_val (v := .int .i64 v13) (y_move (ev_tv rfl hs33)) ?_
      refine L_val (v := .slice a_s1 a_s1l a_s1c) (y_move (ev_tv rfl ((hag28 0 rfl).trans rfl))) ?_
      refine L_val (v := .int .i64 ((a_s1l : Nat) : Int)) (y_len Try.underlying40 rfl (map_ev1 (ev_tv rfl rfl))) ?_
      refine L_val (v := .bool (decide ((v13 : Int) < ((a_s1l : Nat) : Int)))) (y_lss (ev_tv rfl rfl) (ev_tv rfl rfl)) ?_
      refine l_nil ?_
      refine then_norm ?_
      refine hK35 _ _ ?_
      clear hK35
      rcases (Decidable.em ((v13 : Int) < ((a_s1l : Nat) : Int))) with hb36 | hb36
      · replace H := H.1 hb36
        have hq37 : Value.bool (decide ((v13 : Int) < ((a_s1l : Nat) : Int))) = Value.bool true := congrArg Value.bool (decide_eq_true hb36)
        refine cond_t (ev_tv rfl hq37) ?_
        refine c_skip ?_
        refine then_norm ?_
        refine hK34 _ _ ?_
        clear hK34
        refine c_seq ?_
        intro K38 hK38
        refine c_block ?_
        refine c_seq ?_
        intro K39 hK39
        refine c_region ?_
        refine L_val (v := .slice a_s1 a_s1l a_s1c) (y_move (ev_tv rfl ((hag28 0 rfl).trans rfl))) ?_
        refine L_val (v := .int .i64 v13) (y_move (ev_tv rfl hs33)) ?_
        obtain ⟨b16, o17, rfl, H⟩ := H
        obtain ⟨hi40, hi41, H⟩ := H
        refine L_val (v := .pointer (some ⟨b16, o17 + (v13 : Int).toNat * 2, none⟩)) (y_ix Try.underlying40 Try.type31 rfl (ev_tv rfl rfl) (ev_tv rfl rfl) hi40 hi41) ?_
        obtain ⟨x18, x19, hc42, H⟩ := H
        refine L_val (v := .agg #[.int .i64 x18, .int .i64 x19]) (y_loadAgg Try.underlying31 rfl Try.type31 rfl (ev_tv rfl rfl) hc42) ?_
        obtain ⟨b20, hb43⟩ : ∃ b20 : Nat, b20 = World.heapSize w15 := ⟨_, rfl⟩
        obtain ⟨w21, hw44⟩ : ∃ w21 : World, w21 = World.alloc w15 (.cells #[.int .i64 0, .int .i64 0] 31) := ⟨_, rfl⟩
        replace H := H b20 w21 hb43 hw44
        refine L_val (v := .pointer (some ⟨b20, 0, none⟩)) (y_alloc Try.type31 rfl rfl hb43 hw44) ?_
        obtain ⟨hc45, H⟩ := H
        obtain ⟨w22, hw47⟩ : ∃ w22 : World, w22 = putCells w21 ⟨b20, 0, none⟩ [.int .i64 x18, .int .i64 x19] 0 := ⟨_, rfl⟩
        replace H := H w22 hw47
        refine L_skip (y_storeAgg Try.type31 rfl (by intro v hv; simp only [List.mem_cons, List.not_mem_nil, or_false] at hv; rcases hv with rfl | rfl <;> rfl) (ev_tv rfl rfl) (ev_tv rfl rfl) hc45 hw47) ?_
        refine l_nil ?_
        refine then_norm ?_
        refine hK39 _ _ ?_
        clear hK39
        refine c_seq ?_
        intro K48 hK48
        refine c_region ?_
        refine L_val (v := a_del2) (y_move (ev_tv rfl ((hag28 1 rfl).trans rfl))) ?_
        obtain ⟨x23, x24, hc49, H⟩ := H
        refine L_val (v := .agg #[.int .i64 x23, .int .i64 x24]) (y_loadAgg Try.underlying31 rfl Try.type31 rfl (ev_tv rfl rfl) hc49) ?_
        obtain ⟨khk64, firsthk64, caphk64, hi65, hk64, H⟩ := H
        refine L_call (y_callv hk64 (map_ev1 (ev_tv rfl rfl)) ((ev_tv rfl rfl).trans hi65)) (Calls.mono H ?_)
        clear H
        rintro _ w26 ⟨x25, rfl, H⟩
        refine ⟨_, rfl, ?_⟩
        rcases Bool.eq_false_or_eq_true x25 with hb50 | hb50
        · replace H := H.1 hb50
          have hq51 : Value.bool (x25) = Value.bool true := congrArg Value.bool hb50
          refine L_val (v := .bool false) (y_not_t (ev_tv rfl hq51)) ?_
          refine l_nil ?_
          refine then_norm ?_
          refine hK48 _ _ ?_
          clear hK48
          refine cond_f (ev_tv rfl rfl) ?_
          refine c_skip ?_
          refine block_norm ?_
          refine then_norm ?_
          refine hK38 _ _ ?_
          clear hK38
          refine c_region ?_
          refine L_val (v := .int .i64 v13) (y_move (ev_tv rfl hs33)) ?_
          obtain ⟨r28, hr52⟩ : ∃ r28 : Int, r28 = IntKind.wrap .i64 (v13 + 1) := ⟨_, rfl⟩
          replace H := H r28 hr52
          refine L_val (v := .int .i64 r28) (y_add (ev_tv rfl rfl) ev_c hr52) ?_
          refine L_val (v := .int .i64 r28) (y_assign (ev_tv rfl rfl)) ?_
          refine l_nil ?_
          refine then_norm ?_
          obtain ⟨m29, hm53, H⟩ := H
          exact ⟨_, rfl, (by repeat (first | exact agree_refl | exact hag28 | refine agree_upd rfl ?_ | refine agree_via hag28 rfl ?_)), m29, hm53, _, _, hs32, rfl, H⟩
        · replace H := H.2 hb50
          have hq51 : Value.bool (x25) = Value.bool false := congrArg Value.bool hb50
          refine L_val (v := .bool true) (y_not_f (ev_tv rfl hq51)) ?_
          refine l_nil ?_
          refine then_norm ?_
          refine hK48 _ _ ?_
          clear hK48
          refine cond_t (ev_tv rfl rfl) ?_
          refine c_seq ?_
          intro K54 hK54
          refine c_region ?_
          refine L_val (v := .slice (some ⟨b16, o17, none⟩) a_s1l a_s1c) (y_move (ev_tv rfl ((hag28 0 rfl).trans rfl))) ?_
          refine L_val (v := .int .i64 v12) (y_move (ev_tv rfl hs32)) ?_
          obtain ⟨x30, x31, hc55, H⟩ := H
          refine L_val (v := .agg #[.int .i64 x30, .int .i64 x31]) (y_loadAgg Try.underlying31 rfl Try.type31 rfl (ev_tv rfl rfl) hc55) ?_
          obtain ⟨hi56, hi57, H⟩ := H
          refine L_val (v := .pointer (some ⟨b16, o17 + (v12 : Int).toNat * 2, none⟩)) (y_ix Try.underlying40 Try.type31 rfl (ev_tv rfl rfl) (ev_tv rfl rfl) hi56 hi57) ?_
          obtain ⟨hc58, H⟩ := H
          obtain ⟨w32, hw60⟩ : ∃ w32 : World, w32 = putCells w26 ⟨b16, o17 + (v12 : Int).toNat * 2, none⟩ [.int .i64 x30, .int .i64 x31] 0 := ⟨_, rfl⟩
          replace H := H w32 hw60
          refine L_skip (y_storeAgg Try.type31 rfl (by intro v hv; simp only [List.mem_cons, List.not_mem_nil, or_false] at hv; rcases hv with rfl | rfl <;> rfl) (ev_tv rfl rfl) (ev_tv rfl rfl) hc58 hw60) ?_
          refine l_nil ?_
          refine then_norm ?_
          refine hK54 _ _ ?_
          clear hK54
          refine c_region ?_
          refine L_val (v := .int .i64 v12) (y_move (ev_tv rfl hs32)) ?_
          obtain ⟨r33, hr61⟩ : ∃ r33 : Int, r33 = IntKind.wrap .i64 (v12 + 1) := ⟨_, rfl⟩
          replace H := H r33 hr61
          refine L_val (v := .int .i64 r33) (y_add (ev_tv rfl rfl) ev_c hr61) ?_
          refine L_val (v := .int .i64 r33) (y_assign (ev_tv rfl rfl)) ?_
          refine l_nil ?_
          refine block_norm ?_
          refine then_norm ?_
          refine hK38 _ _ ?_
          clear hK38
          refine c_region ?_
          refine L_val (v := .int .i64 v13) (y_move (ev_tv rfl hs33)) ?_
          obtain ⟨r34, hr62⟩ : ∃ r34 : Int, r34 = IntKind.wrap .i64 (v13 + 1) := ⟨_, rfl⟩
          replace H := H r34 hr62
          refine L_val (v := .int .i64 r34) (y_add (ev_tv rfl rfl) ev_c hr62) ?_
          refine L_val (v := .int .i64 r34) (y_assign (ev_tv rfl rfl)) ?_
          refine l_nil ?_
          refine then_norm ?_
          obtain ⟨m35, hm63, H⟩ := H
          exact ⟨_, rfl, (by repeat (first | exact agree_refl | exact hag28 | refine agree_upd rfl ?_ | refine agree_via hag28 rfl ?_)), m35, hm63, _, _, rfl, rfl, H⟩
      · replace H := H.2 hb36
        have hq37 : Value.bool (decide ((v13 : Int) < ((a_s1l : Nat) : Int))) = Value.bool false := congrArg Value.bool (decide_eq_false hb36)
        refine cond_f (ev_tv rfl hq37) ?_
        refine c_exit ?_
        refine then_exit ?_
        refine then_exit ?_
        refine block_hit ?_
        refine then_norm ?_
        exact hK13 _ _ (by repeat (first | exact agree_refl | exact hag28 | refine agree_upd rfl ?_ | refine agree_via hag28 rfl ?_)) ⟨_, hs32, H⟩
    · clear H
      rintro f10 w7 hag11 ⟨v6, hs14, HJ12⟩
      have H := hJ9 v6 w7 HJ12
      clear hJ9
      refine c_seq ?_
      intro K15 hK15
      refine c_region ?_
      refine L_val (v := .slice a_s1 a_s1l a_s1c) (y_move (ev_tv rfl ((hag11 0 rfl).trans rfl))) ?_
      refine L_val (v := .int .i64 v6) (y_move (ev_tv rfl hs14)) ?_
      obtain ⟨hi17, hi18, H⟩ := H
      obtain ⟨a8, ha16⟩ : ∃ a8 : Option Addr, a8 = subA a_s1 2 a_s1c (v6 : Int).toNat := ⟨_, rfl⟩
      replace H := H a8 ha16
      refine L_val (v := .slice a8 (a_s1l - (v6 : Int).toNat) (a_s1c - (v6 : Int).toNat)) (y_sliceL Try.underlying40 Try.type31 rfl (ev_tv rfl rfl) (ev_tv rfl rfl) hi17 hi18 ha16) ?_
      obtain ⟨w9, hc19, H⟩ := H
      refine L_valn (v := .tuple #[]) (y_bi_clear (map_ev1 (ev_tv rfl rfl)) hc19) ?_
      refine l_nil ?_
      refine then_norm ?_
      refine hK15 _ _ ?_
      clear hK15
      refine c_seq ?_
      intro K20 hK20
      refine c_region ?_
      refine L_val (v := .slice a_s1 a_s1l a_s1c) (y_move (ev_tv rfl ((hag11 0 rfl).trans rfl))) ?_
      refine L_val (v := .int .i64 v6) (y_move (ev_tv rfl hs14)) ?_
      obtain ⟨hi22, hi23, H⟩ := H
      obtain ⟨a10, ha21⟩ : ∃ a10 : Option Addr, a10 = a_s1 := ⟨_, rfl⟩
      replace H := H a10 ha21
      refine L_val (v := .slice a10 ((v6 : Int).toNat) a_s1c) (y_sliceH Try.underlying40 Try.type31 (ev_tv rfl rfl) (ev_tv rfl rfl) hi22 hi23 ha21) ?_
      refine L_val (v := .slice a10 ((v6 : Int).toNat) a_s1c) (y_assign (ev_tv rfl rfl)) ?_
      refine l_nil ?_
      refine then_norm ?_
      refine hK20 _ _ ?_
      clear hK20
      refine c_ret ?_
      exact body_1 rfl (ev_tv rfl rfl) H

/-- (parapet/tlb.hart).forget$1 -/
def Vc38 (a_k1 : Int) (a_k2 : Int) (fv3 : Option Addr) (w : World) (R : Ending → World → Prop) : Prop :=
  (∀ (b4 : Nat) (w5 : World), b4 = World.heapSize w → w5 = World.alloc w (.cells #[.int .i64 a_k1, .int .i64 a_k2] 31) → (∃ x6 : Int, World.cell? w5 ⟨b4, 0, none⟩ = some (.int .i64 x6) ∧ (∃ (b7 o8 : Nat), fv3 = some ⟨b7, o8, none⟩ ∧ (∃ x9 : Int, World.cell? w5 ⟨b7, o8, none⟩ = some (.int .i64 x9) ∧ R (.returned (.bool (decide ((x6 : Int) = x9)))) w5))))

theorem vc38 {a_k1 : Int} {a_k2 : Int} {fv3 : Option Addr} {w : World} {R : Ending → World → Prop} (H : Vc38 a_k1 a_k2 fv3 w R) : Calls Try.prog 38 #[.agg #[.int .i64 a_k1, .int .i64 a_k2], .pointer fv3] w R := by
  unfold Vc38 at H
  refine calls_start [.agg #[.int .i64 a_k1, .int .i64 a_k2], .pointer fv3] Try.func38 rfl Try.ntmps38 rfl ?_
  refine c_seq ?_
  intro K1 hK1
  refine c_region ?_
  obtain ⟨b4, hb2⟩ : ∃ b4 : Nat, b4 = World.heapSize w := ⟨_, rfl⟩
  obtain ⟨w5, hw3⟩ : ∃ w5 : World, w5 = World.alloc w (.cells #[.int .i64 a_k1, .int .i64 a_k2] 31) := ⟨_, rfl⟩
  replace H := H b4 w5 hb2 hw3
  refine L_val (v := .pointer (some ⟨b4, 0, none⟩)) (y_box (ev_tv rfl rfl) rfl hb2 hw3) ?_
  refine L_val (v := .bool false) (y_assign ev_c) ?_
  refine l_nil ?_
  refine then_norm ?_
  refine hK1 _ _ ?_
  clear hK1
  refine c_seq ?_
  intro K4 hK4
  refine c_region ?_
  refine L_val (v := .pointer (some ⟨b4, 0, none⟩)) (Try.fa31_0 (ev_tv rfl rfl)) ?_
  obtain ⟨x6, hc5, H⟩ := H
  refine L_val (v := .int .i64 x6) (y_load Try.underlying3 rfl (ev_tv rfl rfl) hc5) ?_
  obtain ⟨b7, o8, rfl, H⟩ := H
  obtain ⟨x9, hc6, H⟩ := H
  refine L_val (v := .int .i64 x9) (y_load Try.underlying3 rfl (ev_tv rfl rfl) hc6) ?_
  refine L_val (v := .bool (decide ((x6 : Int) = x9))) (y_ieq (ev_tv rfl rfl) (ev_tv rfl rfl)) ?_
  refine L_val (v := .bool (decide ((x6 : Int) = x9))) (y_assign (ev_tv rfl rfl)) ?_
  refine l_nil ?_
  refine then_norm ?_
  refine hK4 _ _ ?_
  clear hK4
  refine c_ret ?_
  exact body_1 rfl (ev_tv rfl rfl) H

/-- maps.DeleteFunc[map[parapet/api.Key]uint32,parapet/api.Key,uint32] -/
def Vc39 (a_m1 : Option Nat) (a_del2 : Value) (w : World) (R : Ending → World → Prop) : Prop :=
  (∃ x4 : Option Addr, ∃ w3 : World, (Instr.range 57 (.map a_m1)).run Try.prog w = .ok (.pointer x4) w3 ∧ (∃ I3 : Nat → World → Prop, (∃ m, I3 m  w3) ∧ ∀ (m5 : Nat)  (w6 : World), I3 m5  w6 → (∃ nb7 : Bool, ∃ nv8 : Value, ∃ w9 : World, (Instr.next (.pointer x4) false 0).run Try.prog w6 = .ok nv8 w9 ∧ (∀ w' : World, (Instr.extract nv8 0).run Try.prog w' = .ok (.bool nb7) w') ∧ (((nb7 = true) → (∃ x10 : Int, ∃ x11 : Int, ∃ x12 : Int, (Instr.entry (.pointer x4)).run Try.prog w9 = .ok (.tuple #[.agg #[.int .i64 x10, .int .i64 x11], .int .u32 x12]) w9 ∧ (∀ (b13 : Nat) (w14 : World), b13 = World.heapSize w9 → w14 = World.alloc w9 (.cells #[.int .i64 0, .int .i64 0] 31) → ((∀ j, j < 2 → (World.cell? w14 (Addr.add ⟨b13, 0, none⟩ j)).isSome = true ∧ World.frozen? w14 (Addr.add ⟨b13, 0, none⟩ j) = false) ∧ ∀ w15 : World, w15 = putCells w14 ⟨b13, 0, none⟩ [.int .i64 x10, .int .i64 x11] 0 → (∃ x16 : Int, ∃ x17 : Int, CellsAt w15 ⟨b13, 0, none⟩ [.int .i64 x16, .int .i64 x17] ∧ (Invoke Try.prog a_del2 #[.agg #[.int .i64 x16, .int .i64 x17], .int .u32 x12] w15 fun e w19 => ∃ x18 : Bool, e = .returned (.bool x18) ∧ (((x18 = true) → (∃ x21 : Int, ∃ x22 : Int, CellsAt w19 ⟨b13, 0, none⟩ [.int .i64 x21, .int .i64 x22] ∧ (∃ w23 : World, (Builtin.delete_ #[57, 31] 0 #[.map a_m1, .agg #[.int .i64 x21, .int .i64 x22]]).run Try.prog w19 = .ok (.tuple #[]) w23 ∧ (∃ m24, m24 < m5 ∧ I3 m24  w23)))) ∧ ((x18 = false) → (∃ m25, m25 < m5 ∧ I3 m25  w19))))))))) ∧ ((nb7 = false) → R (.returned (.tuple #[])) w9)))))

theorem vc39 {a_m1 : Option Nat} {a_del2 : Value} {w : World} {R : Ending → World → Prop} (H : Vc39 a_m1 a_del2 w R) : Calls Try.prog 39 #[.map a_m1, a_del2] w R := by
  unfold Vc39 at H
  refine calls_start [.map a_m1, a_del2] Try.func39 rfl Try.ntmps39 rfl ?_
  refine c_seq ?_
  intro K1 hK1
  refine c_region ?_
  refine L_val (v := .map a_m1) (y_move (ev_tv rfl rfl)) ?_
  obtain ⟨x4, w3, hc2, H⟩ := H
  refine L_val (v := .pointer x4) (y_range (ev_tv rfl rfl) hc2) ?_
  refine l_nil ?_
  refine then_norm ?_
  refine hK1 _ _ ?_
  clear hK1
  refine c_block ?_
  obtain ⟨I3, ⟨m7, HI8⟩, H⟩ := H
  refine loop_fr ([(4, 5), (8, 18)]) (fun m ff ww => I3 m  ww) m7 HI8 ?_
  intro m5 f4 w6 hag5 HI6
  replace H := H m5  w6 HI6
  refine c_seq ?_
  intro K9 hK9
  refine c_region ?_
  obtain ⟨nb7, nv8, w9, hc10, hn11, H⟩ := H
  refine L_val (v := nv8) (y_next (ev_tv rfl ((hag5 7 rfl).trans rfl)) hc10) ?_
  refine L_val (v := .bool nb7) (y_extractV (ev_tv rfl rfl) (hn11 _)) ?_
  refine l_nil ?_
  refine then_norm ?_
  refine hK9 _ _ ?_
  clear hK9
  refine c_seq ?_
  intro K12 hK12
  rcases Bool.eq_false_or_eq_true nb7 with hb13 | hb13
  · replace H := H.1 hb13
    have hq14 : Value.bool (nb7) = Value.bool true := congrArg Value.bool hb13
    refine cond_t (ev_tv rfl hq14) ?_
    refine c_skip ?_
    refine then_norm ?_
    refine hK12 _ _ ?_
    clear hK12
    refine c_block ?_
    refine c_seq ?_
    intro K15 hK15
    refine c_region ?_
    obtain ⟨x10, x11, x12, hc16, H⟩ := H
    refine L_val (v := .tuple #[.agg #[.int .i64 x10, .int .i64 x11], .int .u32 x12]) (y_entry (ev_tv rfl ((hag5 7 rfl).trans rfl)) hc16) ?_
    refine L_val (v := .agg #[.int .i64 x10, .int .i64 x11]) (y_extract (ev_tv rfl rfl) rfl) ?_
    refine L_val (v := .int .u32 x12) (y_extract (ev_tv rfl rfl) rfl) ?_
    obtain ⟨b13, hb17⟩ : ∃ b13 : Nat, b13 = World.heapSize w9 := ⟨_, rfl⟩
    obtain ⟨w14, hw18⟩ : ∃ w14 : World, w14 = World.alloc w9 (.cells #[.int .i64 0, .int .i64 0] 31) := ⟨_, rfl⟩
    replace H := H b13 w14 hb17 hw18
    refine L_val (v := .pointer (some ⟨b13, 0, none⟩)) (y_alloc Try.type31 rfl rfl hb17 hw18) ?_
    obtain ⟨hc19, H⟩ := H
    obtain ⟨w15, hw21⟩ : ∃ w15 : World, w15 = putCells w14 ⟨b13, 0, none⟩ [.int .i64 x10, .int .i64 x11] 0 := ⟨_, rfl⟩
    replace H := H w15 hw21
    refine L_skip (y_storeAgg Try.type31 rfl (by intro v hv; simp only [List.mem_cons, List.not_mem_nil, or_false] at hv; rcases hv with rfl | rfl <;> rfl) (ev_tv rfl rfl) (ev_tv rfl rfl) hc19 hw21) ?_
    refine L_val (v := .int .u32 x12) (y_assign (ev_tv rfl rfl)) ?_
    refine l_nil ?_
    refine then_norm ?_
    refine hK15 _ _ ?_
    clear hK15
    refine c_seq ?_
    intro K22 hK22
    refine c_region ?_
    refine L_val (v := a_del2) (y_move (ev_tv rfl ((hag5 1 rfl).trans rfl))) ?_
    obtain ⟨x16, x17, hc23, H⟩ := H
    refine L_val (v := .agg #[.int .i64 x16, .int .i64 x17]) (y_loadAgg Try.underlying31 rfl Try.type31 rfl (ev_tv rfl rfl) hc23) ?_
    refine L_val (v := .int .u32 x12) (y_move (ev_tv rfl rfl)) ?_
    obtain ⟨khk30, firsthk30, caphk30, hi31, hk30, H⟩ := H
    refine L_call (y_callv hk30 (map_ev2 (ev_tv rfl rfl) (ev_tv rfl rfl)) ((ev_tv rfl rfl).trans hi31)) (Calls.mono H ?_)
    clear H
    rintro _ w19 ⟨x18, rfl, H⟩
    refine ⟨_, rfl, ?_⟩
    refine l_nil ?_
    refine then_norm ?_
    refine hK22 _ _ ?_
    clear hK22
    rcases Bool.eq_false_or_eq_true x18 with hb24 | hb24
    · replace H := H.1 hb24
      have hq25 : Value.bool (x18) = Value.bool true := congrArg Value.bool hb24
      refine cond_t (ev_tv rfl hq25) ?_
      refine c_region ?_
      refine L_val (v := .map a_m1) (y_move (ev_tv rfl ((hag5 0 rfl).trans rfl))) ?_
      obtain ⟨x21, x22, hc26, H⟩ := H
      refine L_val (v := .agg #[.int .i64 x21, .int .i64 x22]) (y_loadAgg Try.underlying31 rfl Try.type31 rfl (ev_tv rfl rfl) hc26) ?_
      obtain ⟨w23, hc27, H⟩ := H
      refine L_valn (v := .tuple #[]) (y_bi_delete (map_ev2 (ev_tv rfl rfl) (ev_tv rfl rfl)) hc27) ?_
      refine l_nil ?_
      refine block_norm ?_
      refine then_norm ?_
      obtain ⟨m24, hm28, H⟩ := H
      exact ⟨_, rfl, (by repeat (first | exact agree_refl | exact hag5 | refine agree_upd rfl ?_ | refine agree_via hag5 rfl ?_)), m24, hm28, H⟩
    · replace H := H.2 hb24
      have hq25 : Value.bool (x18) = Value.bool false := congrArg Value.bool hb24
      refine cond_f (ev_tv rfl hq25) ?_
      refine c_skip ?_
      refine block_norm ?_
      refine then_norm ?_
      obtain ⟨m25, hm29, H⟩ := H
      exact ⟨_, rfl, (by repeat (first | exact agree_refl | exact hag5 | refine agree_upd rfl ?_ | refine agree_via hag5 rfl ?_)), m25, hm29, H⟩
  · replace H := H.2 hb13
    have hq14 : Value.bool (nb7) = Value.bool false := congrArg Value.bool hb13
    refine cond_f (ev_tv rfl hq14) ?_
    refine c_exit ?_
    refine then_exit ?_
    refine then_exit ?_
    refine block_hit ?_
    refine body_norm ?_
    exact body_0 rfl H

/-- (parapet/tlb.hart).forget$2 -/
def Vc40 (a_k1 : Int) (a_k2 : Int) (a_p13 : Int) (fv4 : Option Addr) (w : World) (R : Ending → World → Prop) : Prop :=
  (∀ (b5 : Nat) (w6 : World), b5 = World.heapSize w → w6 = World.alloc w (.cells #[.int .i64 a_k1, .int .i64 a_k2] 31) → (∃ x7 : Int, World.cell? w6 ⟨b5, 0, none⟩ = some (.int .i64 x7) ∧ (∃ (b8 o9 : Nat), fv4 = some ⟨b8, o9, none⟩ ∧ (∃ x10 : Int, World.cell? w6 ⟨b8, o9, none⟩ = some (.int .i64 x10) ∧ R (.returned (.bool (decide ((x7 : Int) = x10)))) w6))))

theorem vc40 {a_k1 : Int} {a_k2 : Int} {a_p13 : Int} {fv4 : Option Addr} {w : World} {R : Ending → World → Prop} (H : Vc40 a_k1 a_k2 a_p13 fv4 w R) : Calls Try.prog 40 #[.agg #[.int .i64 a_k1, .int .i64 a_k2], .int .u32 a_p13, .pointer fv4] w R := by
  unfold Vc40 at H
  refine calls_start [.agg #[.int .i64 a_k1, .int .i64 a_k2], .int .u32 a_p13, .pointer fv4] Try.func40 rfl Try.ntmps40 rfl ?_
  refine c_seq ?_
  intro K1 hK1
  refine c_region ?_
  obtain ⟨b5, hb2⟩ : ∃ b5 : Nat, b5 = World.heapSize w := ⟨_, rfl⟩
  obtain ⟨w6, hw3⟩ : ∃ w6 : World, w6 = World.alloc w (.cells #[.int .i64 a_k1, .int .i64 a_k2] 31) := ⟨_, rfl⟩
  replace H := H b5 w6 hb2 hw3
  refine L_val (v := .pointer (some ⟨b5, 0, none⟩)) (y_box (ev_tv rfl rfl) rfl hb2 hw3) ?_
  refine L_val (v := .bool false) (y_assign ev_c) ?_
  refine l_nil ?_
  refine then_norm ?_
  refine hK1 _ _ ?_
  clear hK1
  refine c_seq ?_
  intro K4 hK4
  refine c_region ?_
  refine L_val (v := .pointer (some ⟨b5, 0, none⟩)) (Try.fa31_0 (ev_tv rfl rfl)) ?_
  obtain ⟨x7, hc5, H⟩ := H
  refine L_val (v := .int .i64 x7) (y_load Try.underlying3 rfl (ev_tv rfl rfl) hc5) ?_
  obtain ⟨b8, o9, rfl, H⟩ := H
  obtain ⟨x10, hc6, H⟩ := H
  refine L_val (v := .int .i64 x10) (y_load Try.underlying3 rfl (ev_tv rfl rfl) hc6) ?_
  refine L_val (v := .bool (decide ((x7 : Int) = x10))) (y_ieq (ev_tv rfl rfl) (ev_tv rfl rfl)) ?_
  refine L_val (v := .bool (decide ((x7 : Int) = x10))) (y_assign (ev_tv rfl rfl)) ?_
  refine l_nil ?_
  refine then_norm ?_
  refine hK4 _ _ ?_
  clear hK4
  refine c_ret ?_
  exact body_1 rfl (ev_tv rfl rfl) H

/-- slices.IndexFunc[[]parapet/api.Key,parapet/api.Key] -/
def Vc54 (a_s1 : Option Addr) (a_s1l : Nat) (a_s1c : Nat) (a_f2 : Value) (w : World) (R : Ending → World → Prop) : Prop :=
  (∃ I4 : Nat → Int → World → Prop, (∃ m, I4 m 0 w) ∧ ∀ (m4 : Nat) (v3 : Int) (w5 : World), I4 m4 v3 w5 → ((((v3 : Int) < ((a_s1l : Nat) : Int)) → (∃ (b6 o7 : Nat), a_s1 = some ⟨b6, o7, none⟩ ∧ ((0 : Int) ≤ v3 ∧ v3 < ((a_s1l : Nat) : Int) ∧ (∃ x8 : Int, ∃ x9 : Int, CellsAt w5 ⟨b6, o7 + (v3 : Int).toNat * 2, none⟩ [.int .i64 x8, .int .i64 x9] ∧ (Invoke Try.prog a_f2 #[.agg #[.int .i64 x8, .int .i64 x9]] w5 fun e w11 => ∃ x10 : Bool, e = .returned (.bool x10) ∧ (((x10 = true) → R (.returned (.int .i64 v3)) w11) ∧ ((x10 = false) → (∀ r13 : Int, r13 = IntKind.wrap .i64 (v3 + 1) → (∃ m14, m14 < m4 ∧ I4 m14 r13 w11))))))))) ∧ ((¬ ((v3 : Int) < ((a_s1l : Nat) : Int))) → R (.returned (.int .i64 (-1))) w5)))

theorem vc54 {a_s1 : Option Addr} {a_s1l : Nat} {a_s1c : Nat} {a_f2 : Value} {w : World} {R : Ending → World → Prop} (H : Vc54 a_s1 a_s1l a_s1c a_f2 w R) : Calls Try.prog 54 #[.slice a_s1 a_s1l a_s1c, a_f2] w R := by
  unfold Vc54 at H
  refine calls_start [.slice a_s1 a_s1l a_s1c, a_f2] Try.func54 rfl Try.ntmps54 rfl ?_
  refine c_seq ?_
  intro K1 hK1
  refine c_region ?_
  refine L_val (v := .int .i64 0) (y_assign ev_c) ?_
  refine l_nil ?_
  refine then_norm ?_
  refine hK1 _ _ ?_
  clear hK1
  refine c_seq ?_
  intro K2 hK2
  refine c_seq ?_
  intro K3 hK3
  refine c_region ?_
  refine L_val (v := .slice a_s1 a_s1l a_s1c) (y_move (ev_tv rfl rfl)) ?_
  refine L_val (v := .int .i64 ((a_s1l : Nat) : Int)) (y_len Try.underlying40 rfl (map_ev1 (ev_tv rfl rfl))) ?_
  refine L_val (v := .int .i64 0) (y_move ev_c) ?_
  refine l_nil ?_
  refine then_norm ?_
  refine hK3 _ _ ?_
  clear hK3
  refine c_block ?_
  obtain ⟨I4, ⟨m8, HI9⟩, H⟩ := H
  refine loop_fr ([(4, 5), (8, 18)]) (fun m ff ww => ∃ (v3 : Int), ff 8 = (.int .i64 v3 : Value) ∧ I4 m v3 ww) m8 ⟨0, rfl, HI9⟩ ?_
  rintro m4 f5 w5 hag6 ⟨v3, hs10, HI7⟩
  replace H := H m4 v3 w5 HI7
  refine c_seq ?_
  intro K11 hK11
  refine c_region ?_
  refine L_val (v := .bool (decide ((v3 : Int) < ((a_s1l : Nat) : Int)))) (y_lss (ev_tv rfl hs10) (ev_tv rfl ((hag6 7 rfl).trans rfl))) ?_
  refine l_nil ?_
  refine then_norm ?_
  refine hK11 _ _ ?_
  clear hK11
  refine c_seq ?_
  intro K12 hK12
  rcases (Decidable.em ((v3 : Int) < ((a_s1l : Nat) : Int))) with hb13 | hb13
  · replace H := H.1 hb13
    have hq14 : Value.bool (decide ((v3 : Int) < ((a_s1l : Nat) : Int))) = Value.bool true := congrArg Value.bool (decide_eq_true hb13)
    refine cond_t (ev_tv rfl hq14) ?_
    refine c_skip ?_
    refine then_norm ?_
    refine hK12 _ _ ?_
    clear hK12
    refine c_seq ?_
    intro K15 hK15
    refine c_block ?_
    refine c_seq ?_
    intro K16 hK16
    refine c_region ?_
    refine L_val (v := .int .i64 v3) (y_move (ev_tv rfl hs10)) ?_
    refine L_val (v := .int .i64 v3) (y_assign (ev_tv rfl rfl)) ?_
    refine l_nil ?_
    refine then_norm ?_
    refine hK16 _ _ ?_
    clear hK16
    refine c_seq ?_
    intro K17 hK17
    refine c_region ?_
    refine L_val (v := a_f2) (y_move (ev_tv rfl ((hag6 1 rfl).trans rfl))) ?_
    refine L_val (v := .slice a_s1 a_s1l a_s1c) (y_move (ev_tv rfl ((hag6 0 rfl).trans rfl))) ?_
    refine L_val (v := .int .i64 v3) (y_move (ev_tv rfl rfl)) ?_
    obtain ⟨b6, o7, rfl, H⟩ := H
    obtain ⟨hi18, hi19, H⟩ := H
    refine L_val (v := .pointer (some ⟨b6, o7 + (v3 : Int).toNat * 2, none⟩)) (y_ix Try.underlying40 Try.type31 rfl (ev_tv rfl rfl) (ev_tv rfl rfl) hi18 hi19) ?_
    obtain ⟨x8, x9, hc20, H⟩ := H
    refine L_val (v := .agg #[.int .i64 x8, .int .i64 x9]) (y_loadAgg Try.underlying31 rfl Try.type31 rfl (ev_tv rfl rfl) hc20) ?_
    obtain ⟨khk26, firsthk26, caphk26, hi27, hk26, H⟩ := H
    refine L_call (y_callv hk26 (map_ev1 (ev_tv rfl rfl)) ((ev_tv rfl rfl).trans hi27)) (Calls.mono H ?_)
    clear H
    rintro _ w11 ⟨x10, rfl, H⟩
    refine ⟨_, rfl, ?_⟩
    refine l_nil ?_
    refine then_norm ?_
    refine hK17 _ _ ?_
    clear hK17
    rcases Bool.eq_false_or_eq_true x10 with hb21 | hb21
    · replace H := H.1 hb21
      have hq22 : Value.bool (x10) = Value.bool true := congrArg Value.bool hb21
      refine cond_t (ev_tv rfl hq22) ?_
      refine c_seq ?_
      intro K23 hK23
      refine c_region ?_
      refine L_val (v := .int .i64 v3) (y_move (ev_tv rfl rfl)) ?_
      refine L_val (v := .int .i64 v3) (y_assign (ev_tv rfl rfl)) ?_
      refine l_nil ?_
      refine then_norm ?_
      refine hK23 _ _ ?_
      clear hK23
      refine c_ret ?_
      refine block_ret ?_
      refine then_ret ?_
      refine then_ret ?_
      refine block_ret ?_
      refine then_ret ?_
      exact body_1 rfl (ev_tv rfl rfl) H
    · replace H := H.2 hb21
      have hq22 : Value.bool (x10) = Value.bool false := congrArg Value.bool hb21
      refine cond_f (ev_tv rfl hq22) ?_
      refine c_skip ?_
      refine block_norm ?_
      refine then_norm ?_
      refine hK15 _ _ ?_
      clear hK15
      refine c_region ?_
      obtain ⟨r13, hr24⟩ : ∃ r13 : Int, r13 = IntKind.wrap .i64 (v3 + 1) := ⟨_, rfl⟩
      replace H := H r13 hr24
      refine L_val (v := .int .i64 r13) (y_add (ev_tv rfl hs10) ev_c hr24) ?_
      refine L_val (v := .int .i64 r13) (y_move (ev_tv rfl rfl)) ?_
      refine l_nil ?_
      refine then_norm ?_
      obtain ⟨m14, hm25, H⟩ := H
      exact ⟨_, rfl, (by repeat (first | exact agree_refl | exact hag6 | refine agree_upd rfl ?_ | refine agree_via hag6 rfl ?_)), m14, hm25, _, rfl, H⟩
  · replace H := H.2 hb13
    have hq14 : Value.bool (decide ((v3 : Int) < ((a_s1l : Nat) : Int))) = Value.bool false := congrArg Value.bool (decide_eq_false hb13)
    refine cond_f (ev_tv rfl hq14) ?_
    refine c_exit ?_
    refine then_exit ?_
    refine then_exit ?_
    refine block_hit ?_
    refine then_norm ?_
    refine hK2 _ _ ?_
    clear hK2
    refine c_seq ?_
    intro K28 hK28
    refine c_region ?_
    refine L_val (v := .int .i64 (-1)) (y_assign ev_c) ?_
    refine l_nil ?_
    refine then_norm ?_
    refine hK28 _ _ ?_
    clear hK28
    refine c_ret ?_
    exact body_1 rfl (ev_tv rfl rfl) H

end Go.Proofs.Ytdhdbdpemejpjaa
