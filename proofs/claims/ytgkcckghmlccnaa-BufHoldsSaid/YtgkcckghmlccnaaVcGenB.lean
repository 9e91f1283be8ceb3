/- For each Go function: what must be shown of it, and that this is enough. Printed by a program over the seat's translation. -/
import Derived.Test.YtgkcckghmlccnaaVcGenA
namespace Go.Proofs.Ytgkcckghmlccnaa
open Go Go.Vc
set_option maxRecDepth 100000
set_option linter.unusedVariables false
set_option maxHeartbeats 2000000

/-- (parapet/disk.Disk).Pending -/
def Vc20 (a_d1 : Option Addr) (w : World) (R : Ending → World → Prop) : Prop :=
  (((a_d1 = none) → R (.returned (.slice none 0 0)) w) ∧ ((a_d1 ≠ none) → (∃ (b2 o3 : Nat), a_d1 = some ⟨b2, o3, none⟩ ∧ (∃ x4 : Option Addr, ∃ x4l : Nat, ∃ x4c : Nat, World.cell? w ⟨b2, o3 + 1, none⟩ = some (.slice x4 x4l x4c) ∧ (∃ I11 : Nat → Option Addr → Nat → Nat → Int → World → Prop, (∃ m, I11 m none 0 0 0 w) ∧ ∀ (m7 : Nat) (v5 : Option Addr) (v5l : Nat) (v5c : Nat) (v6 : Int) (w8 : World), I11 m7 v5 v5l v5c v6 w8 → ((((v6 : Int) < ((x4l : Nat) : Int)) → (∃ (b9 o10 : Nat), x4 = some ⟨b9, o10, none⟩ ∧ ((0 : Int) ≤ v6 ∧ v6 < ((x4l : Nat) : Int) ∧ (∃ x11 : Int, ∃ x12 : Option Addr, ∃ x12l : Nat, ∃ x12c : Nat, CellsAt w8 ⟨b9, o10 + (v6 : Int).toNat * 2, none⟩ [.int .i64 x11, .slice x12 x12l x12c] ∧ (∀ (b13 : Nat) (w14 : World), b13 = World.heapSize w8 → w14 = World.alloc w8 (.cells #[.int .i64 0, .slice none 0 0] 66) → ((∀ j, j < 2 → (World.cell? w14 (Addr.add ⟨b13, 0, none⟩ j)).isSome = true ∧ World.frozen? w14 (Addr.add ⟨b13, 0, none⟩ j) = false) ∧ ∀ w15 : World, w15 = putCells w14 ⟨b13, 0, none⟩ [.int .i64 x11, .slice x12 x12l x12c] 0 → (∃ x16 : Int, World.cell? w15 ⟨b13, 0, none⟩ = some (.int .i64 x16) ∧ (∀ (b17 : Nat) (w18 : World), b17 = World.heapSize w15 → w18 = World.alloc w15 (.cells #[.int .i64 x16] 3) → (∃ x20 : Option Addr, ∃ x20l : Nat, ∃ x20c : Nat, ∃ w19 : World, (Builtin.append_ #[43, 43] 43 #[.slice v5 v5l v5c, .slice (some ⟨b17, 0, none⟩) 1 1]).run Try.prog w18 = .ok (.slice x20 x20l x20c) w19 ∧ (∀ r21 : Int, r21 = IntKind.wrap .i64 (v6 + 1) → (∃ m22, m22 < m7 ∧ I11 m22 x20 x20l x20c r21 w19))))))))))) ∧ ((¬ ((v6 : Int) < ((x4l : Nat) : Int))) → R (.returned (.slice v5 v5l v5c)) w8)))))))

theorem vc20 {a_d1 : Option Addr} {w : World} {R : Ending → World → Prop} (H : Vc20 a_d1 w R) : Calls Try.prog 20 #[.pointer a_d1] w R := by
  unfold Vc20 at H
  refine calls_start [.pointer a_d1] Try.func20 rfl Try.ntmps20 rfl ?_
  refine c_seq ?_
  intro K1 hK1
  refine c_region ?_
  refine L_val (v := .slice none 0 0) (y_assign ev_c) ?_
  refine l_nil ?_
  refine then_norm ?_
  refine hK1 _ _ ?_
  clear hK1
  refine c_seq ?_
  intro K2 hK2
  refine c_seq ?_
  intro K3 hK3
  refine c_region ?_
  refine L_val (v := .pointer a_d1) (y_move (ev_tv rfl rfl)) ?_
  refine L_val (v := .bool (a_d1.isNone)) (y_peq Try.underlying23 (ev_tv rfl rfl) ev_c) ?_
  refine l_nil ?_
  refine then_norm ?_
  refine hK3 _ _ ?_
  clear hK3
  rcases (Classical.em (a_d1 = none)) with hb4 | hb4
  · replace H := H.1 hb4
    have hq5 : Value.bool (a_d1.isNone) = Value.bool true := congrArg Value.bool (isn_t hb4)
    refine cond_t (ev_tv rfl hq5) ?_
    refine c_seq ?_
    intro K6 hK6
    refine c_region ?_
    refine L_val (v := .slice none 0 0) (y_assign ev_c) ?_
    refine l_nil ?_
    refine then_norm ?_
    refine hK6 _ _ ?_
    clear hK6
    refine c_ret ?_
    refine then_ret ?_
    exact body_1 rfl (ev_tv rfl rfl) H
  · replace H := H.2 hb4
    have hq5 : Value.bool (a_d1.isNone) = Value.bool false := congrArg Value.bool (isn_f hb4)
    refine cond_f (ev_tv rfl hq5) ?_
    refine c_skip ?_
    refine then_norm ?_
    refine hK2 _ _ ?_
    clear hK2
    refine c_seq ?_
    intro K7 hK7
    refine c_region ?_
    refine L_val (v := .slice none 0 0) (y_assign ev_c) ?_
    refine l_nil ?_
    refine then_norm ?_
    refine hK7 _ _ ?_
    clear hK7
    refine c_seq ?_
    intro K8 hK8
    refine c_seq ?_
    intro K9 hK9
    refine c_region ?_
    refine L_val (v := .pointer a_d1) (y_move (ev_tv rfl rfl)) ?_
    obtain ⟨b2, o3, rfl, H⟩ := H
    refine L_val (v := .pointer (some ⟨b2, o3, none⟩)) (y_nilCheck (ev_tv rfl rfl)) ?_
    refine L_val (v := .pointer (some ⟨b2, o3 + 1, none⟩)) (Try.fa51_1 (ev_tv rfl rfl)) ?_
    obtain ⟨x4, x4l, x4c, hc10, H⟩ := H
    refine L_val (v := .slice x4 x4l x4c) (y_load Try.underlying49 rfl (ev_tv rfl rfl) hc10) ?_
    refine L_val (v := .int .i64 ((x4l : Nat) : Int)) (y_len Try.underlying49 rfl (map_ev1 (ev_tv rfl rfl))) ?_
    refine L_val (v := .int .i64 0) (y_move ev_c) ?_
    refine l_nil ?_
    refine then_norm ?_
    refine hK9 _ _ ?_
    clear hK9
    refine c_block ?_
    obtain ⟨I11, ⟨m15, HI16⟩, H⟩ := H
    refine loop_fr ([(3, 3), (5, 5), (13, 22)]) (fun m ff ww => ∃ (v5 : Option Addr) (v5l : Nat) (v5c : Nat) (v6 : Int), ff 3 = (.slice v5 v5l v5c : Value) ∧ ff 13 = (.int .i64 v6 : Value) ∧ I11 m v5 v5l v5c v6 ww) m15 ⟨none, 0, 0, 0, rfl, rfl, HI16⟩ ?_
    rintro m7 f12 w8 hag13 ⟨v5, v5l, v5c, v6, hs17, hs18, HI14⟩
    replace H := H m7 v5 v5l v5c v6 w8 HI14
    refine c_seq ?_
    intro K19 hK19
    refine c_region ?_
    refine L_val (v := .bool (decide ((v6 : Int) < ((x4l : Nat) : Int)))) (y_lss (ev_tv rfl hs18) (ev_tv rfl ((hag13 12 rfl).trans rfl))) ?_
    refine l_nil ?_
    refine then_norm ?_
    refine hK19 _ _ ?_
    clear hK19
    refine c_seq ?_
    intro K20 hK20
    rcases (Decidable.em ((v6 : Int) < ((x4l : Nat) : Int))) with hb21 | hb21
    · replace H := H.1 hb21
      have hq22 : Value.bool (decide ((v6 : Int) < ((x4l : Nat) : Int))) = Value.bool true := congrArg Value.bool (decide_eq_true hb21)
      refine cond_t (ev_tv rfl hq22) ?_
      refine c_skip ?_
      refine then_norm ?_
      refine hK20 _ _ ?_
      clear hK20
      refine c_seq ?_
      intro K23 hK23
      refine c_block ?_
      refine c_seq ?_
      intro K24 hK24
      refine c_region ?_
      obtain ⟨b9, o10, rfl, H⟩ := H
      obtain ⟨hi25, hi26, H⟩ := H
      refine L_val (v := .pointer (some ⟨b9, o10 + (v6 : Int).toNat * 2, none⟩)) (y_ix Try.underlying49 Try.type66 rfl (ev_tv rfl ((hag13 11 rfl).trans rfl)) (ev_tv rfl hs18) hi25 hi26) ?_
      obtain ⟨x11, x12, x12l, x12c, hc27, H⟩ := H
      refine L_val (v := .agg #[.int .i64 x11, .slice x12 x12l x12c]) (y_loadAgg Try.underlying66 rfl Try.type66 rfl (ev_tv rfl rfl) hc27) ?_
      obtain ⟨b13, hb28⟩ : ∃ b13 : Nat, b13 = World.heapSize w8 := ⟨_, rfl⟩
      obtain ⟨w14, hw29⟩ : ∃ w14 : World, w14 = World.alloc w8 (.cells #[.int .i64 0, .slice none 0 0] 66) := ⟨_, rfl⟩
      replace H := H b13 w14 hb28 hw29
      refine L_val (v := .pointer (some ⟨b13, 0, none⟩)) (y_alloc Try.type66 rfl rfl hb28 hw29) ?_
      obtain ⟨hc30, H⟩ := H
      obtain ⟨w15, hw32⟩ : ∃ w15 : World, w15 = putCells w14 ⟨b13, 0, none⟩ [.int .i64 x11, .slice x12 x12l x12c] 0 := ⟨_, rfl⟩
      replace H := H w15 hw32
      refine L_skip (y_storeAgg Try.type66 rfl (by intro v hv; simp only [List.mem_cons, List.not_mem_nil, or_false] at hv; rcases hv with rfl | rfl <;> rfl) (ev_tv rfl rfl) (ev_tv rfl rfl) hc30 hw32) ?_
      refine l_nil ?_
      refine then_norm ?_
      refine hK24 _ _ ?_
      clear hK24
      refine c_region ?_
      refine L_val (v := .slice v5 v5l v5c) (y_move (ev_tv rfl hs17)) ?_
      refine L_val (v := .pointer (some ⟨b13, 0, none⟩)) (Try.fa66_0 (ev_tv rfl rfl)) ?_
      obtain ⟨x16, hc33, H⟩ := H
      refine L_val (v := .int .i64 x16) (y_load Try.underlying3 rfl (ev_tv rfl rfl) hc33) ?_
      obtain ⟨b17, hb34⟩ : ∃ b17 : Nat, b17 = World.heapSize w15 := ⟨_, rfl⟩
      obtain ⟨w18, hw35⟩ : ∃ w18 : World, w18 = World.alloc w15 (.cells #[.int .i64 x16] 3) := ⟨_, rfl⟩
      replace H := H b17 w18 hb34 hw35
      refine L_val (v := .slice (some ⟨b17, 0, none⟩) 1 1) (y_buildSlice (parts_ev1 (ev_tv rfl rfl)) hb34 hw35 (by kernel_rfl)) ?_
      obtain ⟨x20, x20l, x20c, w19, hc36, H⟩ := H
      refine L_val (v := .slice x20 x20l x20c) (y_bi_append (map_ev2 (ev_tv rfl rfl) (ev_tv rfl rfl)) hc36) ?_
      refine L_val (v := .slice x20 x20l x20c) (y_assign (ev_tv rfl rfl)) ?_
      refine l_nil ?_
      refine block_norm ?_
      refine then_norm ?_
      refine hK23 _ _ ?_
      clear hK23
      refine c_region ?_
      obtain ⟨r21, hr37⟩ : ∃ r21 : Int, r21 = IntKind.wrap .i64 (v6 + 1) := ⟨_, rfl⟩
      replace H := H r21 hr37
      refine L_val (v := .int .i64 r21) (y_add (ev_tv rfl hs18) ev_c hr37) ?_
      refine L_val (v := .int .i64 r21) (y_move (ev_tv rfl rfl)) ?_
      refine l_nil ?_
      refine then_norm ?_
      obtain ⟨m22, hm38, H⟩ := H
      exact ⟨_, rfl, (by repeat (first | exact agree_refl | exact hag13 | refine agree_upd rfl ?_ | refine agree_via hag13 rfl ?_)), m22, hm38, _, _, _, _, rfl, rfl, H⟩
    · replace H := H.2 hb21
      have hq22 : Value.bool (decide ((v6 : Int) < ((x4l : Nat) : Int))) = Value.bool false := congrArg Value.bool (decide_eq_false hb21)
      refine cond_f (ev_tv rfl hq22) ?_
      refine c_exit ?_
      refine then_exit ?_
      refine then_exit ?_
      refine block_hit ?_
      refine then_norm ?_
      refine hK8 _ _ ?_
      clear hK8
      refine c_seq ?_
      intro K39 hK39
      refine c_region ?_
      refine L_val (v := .slice v5 v5l v5c) (y_move (ev_tv rfl hs17)) ?_
      refine L_val (v := .slice v5 v5l v5c) (y_assign (ev_tv rfl rfl)) ?_
      refine l_nil ?_
      refine then_norm ?_
      refine hK39 _ _ ?_
      clear hK39
      refine c_ret ?_
      exact body_1 rfl (ev_tv rfl rfl) H

/-- (parapet/buf.Cache).made -/
def Vc21 (a_c1 : Option Addr) (w : World) (R : Ending → World → Prop) : Prop :=
  (((a_c1 ≠ none) → (∃ (b2 o3 : Nat), a_c1 = some ⟨b2, o3, none⟩ ∧ (∃ x4 : Option Addr, World.cell? w ⟨b2, o3, none⟩ = some (.pointer x4) ∧ R (.returned (.bool (!x4.isNone))) w))) ∧ ((a_c1 = none) → R (.returned (.bool false)) w))

theorem vc21 {a_c1 : Option Addr} {w : World} {R : Ending → World → Prop} (H : Vc21 a_c1 w R) : Calls Try.prog 21 #[.pointer a_c1] w R := by
  unfold Vc21 at H
  refine calls_start [.pointer a_c1] Try.func21 rfl Try.ntmps21 rfl ?_
  refine c_seq ?_
  intro K1 hK1
  refine c_region ?_
  refine L_val (v := .bool false) (y_assign ev_c) ?_
  refine l_nil ?_
  refine then_norm ?_
  refine hK1 _ _ ?_
  clear hK1
  refine c_seq ?_
  intro K2 hK2
  refine c_region ?_
  refine L_val (v := .pointer a_c1) (y_move (ev_tv rfl rfl)) ?_
  refine L_val (v := .bool (!a_c1.isNone)) (y_pne Try.underlying28 (ev_tv rfl rfl) ev_c) ?_
  refine L_val (v := .bool (!a_c1.isNone)) (y_move (ev_tv rfl rfl)) ?_
  rcases (Classical.em (a_c1 ≠ none)) with hb3 | hb3
  · replace H := H.1 hb3
    have hq4 : Value.bool (!a_c1.isNone) = Value.bool true := congrArg Value.bool (nisn_t hb3)
    refine G_val (dj := 5) rfl rfl hq4 (v := .pointer a_c1) (y_move (ev_tv rfl rfl)) ?_
    obtain ⟨b2, o3, rfl, H⟩ := H
    refine G_val (dj := 5) rfl rfl hq4 (v := .pointer (some ⟨b2, o3, none⟩)) (y_nilCheck (ev_tv rfl rfl)) ?_
    refine G_val (dj := 5) rfl rfl hq4 (v := .pointer (some ⟨b2, o3, none⟩)) (Try.fa56_0 (ev_tv rfl rfl)) ?_
    obtain ⟨x4, hc5, H⟩ := H
    refine G_val (dj := 5) rfl rfl hq4 (v := .pointer x4) (y_load Try.underlying23 rfl (ev_tv rfl rfl) hc5) ?_
    refine G_val (dj := 5) rfl rfl hq4 (v := .bool (!x4.isNone)) (y_pne Try.underlying23 (ev_tv rfl rfl) ev_c) ?_
    refine L_val (v := .bool (!x4.isNone)) (y_pick_t (ev_tv rfl hq4) (ev_tv rfl rfl)) ?_
    refine L_val (v := .bool (!x4.isNone)) (y_assign (ev_tv rfl rfl)) ?_
    refine l_nil ?_
    refine then_norm ?_
    refine hK2 _ _ ?_
    clear hK2
    refine c_ret ?_
    exact body_1 rfl (ev_tv rfl rfl) H
  · replace hb3 : a_c1 = none := Classical.not_not.1 hb3
    replace H := H.2 hb3
    have hq4 : Value.bool (!a_c1.isNone) = Value.bool false := congrArg Value.bool (nisn_f hb3)
    refine G_not (b' := false) (dj := 5) rfl rfl hq4 rfl ?_
    refine G_not (b' := false) (dj := 5) rfl rfl hq4 rfl ?_
    refine G_not (b' := false) (dj := 5) rfl rfl hq4 rfl ?_
    refine G_not (b' := false) (dj := 5) rfl rfl hq4 rfl ?_
    refine G_not (b' := false) (dj := 5) rfl rfl hq4 rfl ?_
    refine L_val (v := .bool false) (y_pick_f (ev_tv rfl hq4) ev_c) ?_
    refine L_val (v := .bool false) (y_assign (ev_tv rfl rfl)) ?_
    refine l_nil ?_
    refine then_norm ?_
    refine hK2 _ _ ?_
    clear hK2
    refine c_ret ?_
    exact body_1 rfl (ev_tv rfl rfl) H

/-- (parapet/buf.Cache).last -/
def Vc22 (a_c1 : Option Addr) (a_n2 : Int) (w : World) (R : Ending → World → Prop) : Prop :=
  (Calls Try.prog 27 #[.pointer a_c1, .int .i64 a_n2] w fun e w3 => e = .returned (.tuple #[]) ∧ (∃ (b5 o6 : Nat), a_c1 = some ⟨b5, o6, none⟩ ∧ (∃ x7 : Option Addr, ∃ x7l : Nat, ∃ x7c : Nat, World.cell? w3 ⟨b5, o6 + 3, none⟩ = some (.slice x7 x7l x7c) ∧ (∀ (b8 : Nat) (w9 : World), b8 = World.heapSize w3 → w9 = World.alloc w3 (.cells #[.int .i64 a_n2] 3) → (∃ x11 : Option Addr, ∃ x11l : Nat, ∃ x11c : Nat, ∃ w10 : World, (Builtin.append_ #[43, 43] 43 #[.slice x7 x7l x7c, .slice (some ⟨b8, 0, none⟩) 1 1]).run Try.prog w9 = .ok (.slice x11 x11l x11c) w10 ∧ ((World.cell? w10 ⟨b5, o6 + 3, none⟩).isSome = true ∧ World.frozen? w10 ⟨b5, o6 + 3, none⟩ = false ∧ ∀ w12 : World, w12 = World.setCell w10 ⟨b5, o6 + 3, none⟩ (.slice x11 x11l x11c) → R (.returned (.tuple #[])) w12))))))

theorem vc22 {a_c1 : Option Addr} {a_n2 : Int} {w : World} {R : Ending → World → Prop} (H : Vc22 a_c1 a_n2 w R) : Calls Try.prog 22 #[.pointer a_c1, .int .i64 a_n2] w R := by
  unfold Vc22 at H
  refine calls_start [.pointer a_c1, .int .i64 a_n2] Try.func22 rfl Try.ntmps22 rfl ?_
  refine c_seq ?_
  intro K1 hK1
  refine c_region ?_
  refine L_val (v := .pointer a_c1) (y_move (ev_tv rfl rfl)) ?_
  refine L_val (v := .int .i64 a_n2) (y_move (ev_tv rfl rfl)) ?_
  refine L_call (y_call Try.call27 (map_ev2 (ev_tv rfl rfl) (ev_tv rfl rfl)) ev_f) (Calls.mono H ?_)
  clear H
  rintro _ w3 ⟨rfl, H⟩
  refine ⟨_, rfl, ?_⟩
  refine l_nil ?_
  refine then_norm ?_
  refine hK1 _ _ ?_
  clear hK1
  refine c_region ?_
  refine L_val (v := .pointer a_c1) (y_move (ev_tv rfl rfl)) ?_
  refine L_val (v := .pointer a_c1) (y_move (ev_tv rfl rfl)) ?_
  obtain ⟨b5, o6, rfl, H⟩ := H
  refine L_val (v := .pointer (some ⟨b5, o6, none⟩)) (y_nilCheck (ev_tv rfl rfl)) ?_
  refine L_val (v := .pointer (some ⟨b5, o6 + 3, none⟩)) (Try.fa56_3 (ev_tv rfl rfl)) ?_
  obtain ⟨x7, x7l, x7c, hc2, H⟩ := H
  refine L_val (v := .slice x7 x7l x7c) (y_load Try.underlying43 rfl (ev_tv rfl rfl) hc2) ?_
  refine L_val (v := .int .i64 a_n2) (y_move (ev_tv rfl rfl)) ?_
  obtain ⟨b8, hb3⟩ : ∃ b8 : Nat, b8 = World.heapSize w3 := ⟨_, rfl⟩
  obtain ⟨w9, hw4⟩ : ∃ w9 : World, w9 = World.alloc w3 (.cells #[.int .i64 a_n2] 3) := ⟨_, rfl⟩
  replace H := H b8 w9 hb3 hw4
  refine L_val (v := .slice (some ⟨b8, 0, none⟩) 1 1) (y_buildSlice (parts_ev1 (ev_tv rfl rfl)) hb3 hw4 (by kernel_rfl)) ?_
  obtain ⟨x11, x11l, x11c, w10, hc5, H⟩ := H
  refine L_val (v := .slice x11 x11l x11c) (y_bi_append (map_ev2 (ev_tv rfl rfl) (ev_tv rfl rfl)) hc5) ?_
  refine L_val (v := .pointer (some ⟨b5, o6, none⟩)) (y_nilCheck (ev_tv rfl rfl)) ?_
  refine L_val (v := .pointer (some ⟨b5, o6 + 3, none⟩)) (Try.fa56_3 (ev_tv rfl rfl)) ?_
  obtain ⟨hc6, hf7, H⟩ := H
  obtain ⟨w12, hw8⟩ : ∃ w12 : World, w12 = World.setCell w10 ⟨b5, o6 + 3, none⟩ (.slice x11 x11l x11c) := ⟨_, rfl⟩
  replace H := H w12 hw8
  refine L_skip (y_store Try.type43 rfl rfl (ev_tv rfl rfl) (ev_tv rfl rfl) hc6 hf7 hw8) ?_
  refine l_nil ?_
  refine body_norm ?_
  exact body_0 rfl H

/-- slices.Clone[[]byte,byte] -/
def Vc23 (a_s1 : Option Addr) (a_s1l : Nat) (a_s1c : Nat) (w : World) (R : Ending → World → Prop) : Prop :=
  (((a_s1 = none) → R (.returned (.slice none 0 0)) w) ∧ ((a_s1 ≠ none) → (∀ (b2 : Nat) (w3 : World), b2 = World.heapSize w → w3 = World.alloc w (.cells #[] 5) → (∃ x5 : Option Addr, ∃ x5l : Nat, ∃ x5c : Nat, ∃ w4 : World, (Builtin.append_ #[33, 33] 33 #[.slice (some ⟨b2, 0, none⟩) 0 0, .slice a_s1 a_s1l a_s1c]).run Try.prog w3 = .ok (.slice x5 x5l x5c) w4 ∧ R (.returned (.slice x5 x5l x5c)) w4))))

theorem vc23 {a_s1 : Option Addr} {a_s1l : Nat} {a_s1c : Nat} {w : World} {R : Ending → World → Prop} (H : Vc23 a_s1 a_s1l a_s1c w R) : Calls Try.prog 23 #[.slice a_s1 a_s1l a_s1c] w R := by
  unfold Vc23 at H
  refine calls_start [.slice a_s1 a_s1l a_s1c] Try.func23 rfl Try.ntmps23 rfl ?_
  refine c_seq ?_
  intro K1 hK1
  refine c_region ?_
  refine L_val (v := .slice none 0 0) (y_assign ev_c) ?_
  refine l_nil ?_
  refine then_norm ?_
  refine hK1 _ _ ?_
  clear hK1
  refine c_seq ?_
  intro K2 hK2
  refine c_seq ?_
  intro K3 hK3
  refine c_region ?_
  refine L_val (v := .slice a_s1 a_s1l a_s1c) (y_move (ev_tv rfl rfl)) ?_
  refine L_val (v := .bool (a_s1.isNone)) (y_sleq Try.underlying33 (ev_tv rfl rfl) ev_c) ?_
  refine l_nil ?_
  refine then_norm ?_
  refine hK3 _ _ ?_
  clear hK3
  rcases (Classical.em (a_s1 = none)) with hb4 | hb4
  · replace H := H.1 hb4
    have hq5 : Value.bool (a_s1.isNone) = Value.bool true := congrArg Value.bool (isn_t hb4)
    refine cond_t (ev_tv rfl hq5) ?_
    refine c_seq ?_
    intro K6 hK6
    refine c_region ?_
    refine L_val (v := .slice none 0 0) (y_assign ev_c) ?_
    refine l_nil ?_
    refine then_norm ?_
    refine hK6 _ _ ?_
    clear hK6
    refine c_ret ?_
    refine then_ret ?_
    exact body_1 rfl (ev_tv rfl rfl) H
  · replace H := H.2 hb4
    have hq5 : Value.bool (a_s1.isNone) = Value.bool false := congrArg Value.bool (isn_f hb4)
    refine cond_f (ev_tv rfl hq5) ?_
    refine c_skip ?_
    refine then_norm ?_
    refine hK2 _ _ ?_
    clear hK2
    refine c_seq ?_
    intro K7 hK7
    refine c_region ?_
    obtain ⟨b2, hb8⟩ : ∃ b2 : Nat, b2 = World.heapSize w := ⟨_, rfl⟩
    obtain ⟨w3, hw9⟩ : ∃ w3 : World, w3 = World.alloc w (.cells #[] 5) := ⟨_, rfl⟩
    replace H := H b2 w3 hb8 hw9
    refine L_val (v := .slice (some ⟨b2, 0, none⟩) 0 0) (y_buildSlice rfl hb8 hw9 (by kernel_rfl)) ?_
    refine L_val (v := .slice a_s1 a_s1l a_s1c) (y_move (ev_tv rfl rfl)) ?_
    obtain ⟨x5, x5l, x5c, w4, hc10, H⟩ := H
    refine L_val (v := .slice x5 x5l x5c) (y_bi_append (map_ev2 (ev_tv rfl rfl) (ev_tv rfl rfl)) hc10) ?_
    refine L_val (v := .slice x5 x5l x5c) (y_assign (ev_tv rfl rfl)) ?_
    refine l_nil ?_
    refine then_norm ?_
    refine hK7 _ _ ?_
    clear hK7
    refine c_ret ?_
    exact body_1 rfl (ev_tv rfl rfl) H

/-- (parapet/disk.Disk).Count -/
def Vc24 (a_d1 : Option Addr) (w : World) (R : Ending → World → Prop) : Prop :=
  (((a_d1 = none) → R (.returned (.int .i64 0)) w) ∧ ((a_d1 ≠ none) → (∃ (b2 o3 : Nat), a_d1 = some ⟨b2, o3, none⟩ ∧ (∃ x4 : Option Addr, ∃ x4l : Nat, ∃ x4c : Nat, World.cell? w ⟨b2, o3, none⟩ = some (.slice x4 x4l x4c) ∧ (∀ r5 : Int, r5 = IntKind.wrap .i64 (Int.tdiv ((x4l : Nat) : Int) 512) → R (.returned (.int .i64 r5)) w)))))

theorem vc24 {a_d1 : Option Addr} {w : World} {R : Ending → World → Prop} (H : Vc24 a_d1 w R) : Calls Try.prog 24 #[.pointer a_d1] w R := by
  unfold Vc24 at H
  refine calls_start [.pointer a_d1] Try.func24 rfl Try.ntmps24 rfl ?_
  refine c_seq ?_
  intro K1 hK1
  refine c_region ?_
  refine L_val (v := .int .i64 0) (y_assign ev_c) ?_
  refine l_nil ?_
  refine then_norm ?_
  refine hK1 _ _ ?_
  clear hK1
  refine c_seq ?_
  intro K2 hK2
  refine c_seq ?_
  intro K3 hK3
  refine c_region ?_
  refine L_val (v := .pointer a_d1) (y_move (ev_tv rfl rfl)) ?_
  refine L_val (v := .bool (a_d1.isNone)) (y_peq Try.underlying23 (ev_tv rfl rfl) ev_c) ?_
  refine l_nil ?_
  refine then_norm ?_
  refine hK3 _ _ ?_
  clear hK3
  rcases (Classical.em (a_d1 = none)) with hb4 | hb4
  · replace H := H.1 hb4
    have hq5 : Value.bool (a_d1.isNone) = Value.bool true := congrArg Value.bool (isn_t hb4)
    refine cond_t (ev_tv rfl hq5) ?_
    refine c_seq ?_
    intro K6 hK6
    refine c_region ?_
    refine L_val (v := .int .i64 0) (y_assign ev_c) ?_
    refine l_nil ?_
    refine then_norm ?_
    refine hK6 _ _ ?_
    clear hK6
    refine c_ret ?_
    refine then_ret ?_
    exact body_1 rfl (ev_tv rfl rfl) H
  · replace H := H.2 hb4
    have hq5 : Value.bool (a_d1.isNone) = Value.bool false := congrArg Value.bool (isn_f hb4)
    refine cond_f (ev_tv rfl hq5) ?_
    refine c_skip ?_
    refine then_norm ?_
    refine hK2 _ _ ?_
    clear hK2
    refine c_seq ?_
    intro K7 hK7
    refine c_region ?_
    refine L_val (v := .pointer a_d1) (y_move (ev_tv rfl rfl)) ?_
    obtain ⟨b2, o3, rfl, H⟩ := H
    refine L_val (v := .pointer (some ⟨b2, o3, none⟩)) (y_nilCheck (ev_tv rfl rfl)) ?_
    refine L_val (v := .pointer (some ⟨b2, o3, none⟩)) (Try.fa51_0 (ev_tv rfl rfl)) ?_
    obtain ⟨x4, x4l, x4c, hc8, H⟩ := H
    refine L_val (v := .slice x4 x4l x4c) (y_load Try.underlying33 rfl (ev_tv rfl rfl) hc8) ?_
    refine L_val (v := .int .i64 ((x4l : Nat) : Int)) (y_len Try.underlying33 rfl (map_ev1 (ev_tv rfl rfl))) ?_
    obtain ⟨r5, hr9⟩ : ∃ r5 : Int, r5 = IntKind.wrap .i64 (Int.tdiv ((x4l : Nat) : Int) 512) := ⟨_, rfl⟩
    replace H := H r5 hr9
    refine L_val (v := .int .i64 r5) (y_quo (ev_tv rfl rfl) ev_c (by decide) hr9) ?_
    refine L_val (v := .int .i64 r5) (y_assign (ev_tv rfl rfl)) ?_
    refine l_nil ?_
    refine then_norm ?_
    refine hK7 _ _ ?_
    clear hK7
    refine c_ret ?_
    exact body_1 rfl (ev_tv rfl rfl) H

/-- (parapet/buf.Cache).makeRoom -/
def Vc25 (a_c1 : Option Addr) (w : World) (R : Ending → World → Prop) : Prop :=
  (∀ (b2 : Nat) (w3 : World), b2 = World.heapSize w → w3 = World.alloc w (.cells #[.pointer a_c1] 28) → (∃ x4 : Option Addr, World.cell? (w3.drew) ⟨b2, 0, none⟩ = some (.pointer x4) ∧ (∃ (b5 o6 : Nat), x4 = some ⟨b5, o6, none⟩ ∧ (∃ x7 : Option Addr, ∃ x7l : Nat, ∃ x7c : Nat, World.cell? (w3.drew) ⟨b5, o6 + 3, none⟩ = some (.slice x7 x7l x7c) ∧ (∃ x8 : Option Addr, World.cell? (w3.drew) ⟨b2, 0, none⟩ = some (.pointer x8) ∧ (∃ (b9 o10 : Nat), x8 = some ⟨b9, o10, none⟩ ∧ (∃ x11 : Int, World.cell? (w3.drew) ⟨b9, o10 + 1, none⟩ = some (.int .i64 x11) ∧ ((((((x7l : Nat) : Int) : Int) < x11) → R (.returned (.bool true)) (w3.drew)) ∧ ((¬ ((((x7l : Nat) : Int) : Int) < x11)) → (∃ x12 : Option Addr, World.cell? (w3.drew) ⟨b2, 0, none⟩ = some (.pointer x12) ∧ (∃ (b13 o14 : Nat), x12 = some ⟨b13, o14, none⟩ ∧ (∃ x15 : Option Addr, ∃ x15l : Nat, ∃ x15c : Nat, World.cell? (w3.drew) ⟨b13, o14 + 3, none⟩ = some (.slice x15 x15l x15c) ∧ (Calls Try.prog 34 #[.slice x15 x15l x15c, .func (.func 35) #[] #[.pointer (some ⟨b2, 0, none⟩)]] (w3.drew) fun e w17 => ∃ x16 : Int, e = .returned (.int .i64 x16) ∧ ((((x16 : Int) < 0) → R (.returned (.bool false)) w17) ∧ ((¬ ((x16 : Int) < 0)) → (∃ x19 : Option Addr, World.cell? (w17.drew) ⟨b2, 0, none⟩ = some (.pointer x19) ∧ (∃ (b20 o21 : Nat), x19 = some ⟨b20, o21, none⟩ ∧ (∃ x22 : Option Nat, World.cell? (w17.drew) ⟨b20, o21 + 2, none⟩ = some (.map x22) ∧ (∃ x23 : Option Addr, World.cell? (w17.drew) ⟨b2, 0, none⟩ = some (.pointer x23) ∧ (∃ (b24 o25 : Nat), x23 = some ⟨b24, o25, none⟩ ∧ (∃ x26 : Option Addr, ∃ x26l : Nat, ∃ x26c : Nat, World.cell? (w17.drew) ⟨b24, o25 + 3, none⟩ = some (.slice x26 x26l x26c) ∧ (∃ (b27 o28 : Nat), x26 = some ⟨b27, o28, none⟩ ∧ ((0 : Int) ≤ x16 ∧ x16 < ((x26l : Nat) : Int) ∧ (∃ x29 : Int, World.cell? (w17.drew) ⟨b27, o28 + (x16 : Int).toNat, none⟩ = some (.int .i64 x29) ∧ (∃ w30 : World, (Builtin.delete_ #[52, 3] 0 #[.map x22, .int .i64 x29]).run Try.prog (w17.drew) = .ok (.tuple #[]) w30 ∧ (World.cell? w30 ⟨b24, o25 + 3, none⟩ = some (.slice x26 x26l x26c) ∧ World.cell? w30 ⟨b2, 0, none⟩ = some (.pointer x23) ∧ World.cell? w30 ⟨b2, 0, none⟩ = some (.pointer x19) ∧ (∀ r31 : Int, r31 = IntKind.wrap .i64 (x16 + 1) → (∃ x32 : Option Addr, World.cell? (w30.drew) ⟨b2, 0, none⟩ = some (.pointer x32) ∧ (∃ x33 : Option Addr, World.cell? (w30.drew) ⟨b2, 0, none⟩ = some (.pointer x33) ∧ (∃ (b34 o35 : Nat), x33 = some ⟨b34, o35, none⟩ ∧ (∃ x36 : Option Addr, ∃ x36l : Nat, ∃ x36c : Nat, World.cell? (w30.drew) ⟨b34, o35 + 3, none⟩ = some (.slice x36 x36l x36c) ∧ (Calls Try.prog 36 #[.slice x36 x36l x36c, .int .i64 x16, .int .i64 r31] (w30.drew) fun e w38 => ∃ x37 : Option Addr, ∃ x37l : Nat, ∃ x37c : Nat, e = .returned (.slice x37 x37l x37c) ∧ (World.cell? w38 ⟨b2, 0, none⟩ = some (.pointer x33) ∧ World.cell? w38 ⟨b2, 0, none⟩ = some (.pointer x32) ∧ (∃ (b39 o40 : Nat), x32 = some ⟨b39, o40, none⟩ ∧ ((World.cell? w38 ⟨b39, o40 + 3, none⟩).isSome = true ∧ World.frozen? w38 ⟨b39, o40 + 3, none⟩ = false ∧ ∀ w41 : World, w41 = World.setCell w38 ⟨b39, o40 + 3, none⟩ (.slice x37 x37l x37c) → (∃ x42 : Option Addr, World.cell? w41 ⟨b2, 0, none⟩ = some (.pointer x42) ∧ (∃ (b43 o44 : Nat), x42 = some ⟨b43, o44, none⟩ ∧ (∃ x45 : Int, World.cell? w41 ⟨b43, o44 + 4 + 2, none⟩ = some (.int .i64 x45) ∧ (∀ r46 : Int, r46 = IntKind.wrap .i64 (x45 + 1) → ((World.cell? w41 ⟨b43, o44 + 4 + 2, none⟩).isSome = true ∧ World.frozen? w41 ⟨b43, o44 + 4 + 2, none⟩ = false ∧ ∀ w47 : World, w47 = World.setCell w41 ⟨b43, o44 + 4 + 2, none⟩ (.int .i64 r46) → R (.returned (.bool true)) w47))))))))))))))))))))))))))))))))))))))))

theorem vc25 {a_c1 : Option Addr} {w : World} {R : Ending → World → Prop} (H : Vc25 a_c1 w R) : Calls Try.prog 25 #[.pointer a_c1] w R := by
  unfold Vc25 at H
  refine calls_start [.pointer a_c1] Try.func25 rfl Try.ntmps25 rfl ?_
  refine c_seq ?_
  intro K1 hK1
  refine c_region ?_
  obtain ⟨b2, hb2⟩ : ∃ b2 : Nat, b2 = World.heapSize w := ⟨_, rfl⟩
  obtain ⟨w3, hw3⟩ : ∃ w3 : World, w3 = World.alloc w (.cells #[.pointer a_c1] 28) := ⟨_, rfl⟩
  replace H := H b2 w3 hb2 hw3
  refine L_val (v := .pointer (some ⟨b2, 0, none⟩)) (y_box (ev_tv rfl rfl) rfl hb2 hw3) ?_
  refine L_val (v := .bool false) (y_assign ev_c) ?_
  refine l_nil ?_
  refine then_norm ?_
  refine hK1 _ _ ?_
  clear hK1
  refine c_seq ?_
  intro K4 hK4
  refine c_seq ?_
  intro K5 hK5
  refine D_start Try.mixed rfl [] ?_
  refine start_keep fun hS => ?_
  obtain ⟨x4, hc6, H⟩ := H
  refine D_read (i := 0) (v := .pointer x4) rfl (by kernel_rfl) (W_none rfl) (fun wx => World.cell? wx ⟨b2, 0, none⟩ = some (.pointer x4)) hc6 (fun _ hcx => y_load Try.underlying28 rfl (ev_tv rfl rfl) hcx) hS ?_
  intro hS
  obtain ⟨b5, o6, rfl, H⟩ := H
  refine D_pure (i := 1) (v := .pointer (some ⟨b5, o6, none⟩)) rfl (by kernel_rfl) (W_none rfl) (fun _ => y_nilCheck (ev_tv rfl rfl)) hS ?_
  intro hS
  refine D_pure (i := 2) (v := .pointer (some ⟨b5, o6 + 3, none⟩)) rfl (by kernel_rfl) (W_none rfl) (fun _ => Try.fa56_3 (ev_tv rfl rfl)) hS ?_
  intro hS
  obtain ⟨x7, x7l, x7c, hc7, H⟩ := H
  refine D_read (i := 3) (v := .slice x7 x7l x7c) rfl (by kernel_rfl) (W_none rfl) (fun wx => World.cell? wx ⟨b5, o6 + 3, none⟩ = some (.slice x7 x7l x7c)) hc7 (fun _ hcx => y_load Try.underlying43 rfl (ev_tv rfl rfl) hcx) hS ?_
  intro hS
  refine D_pure (i := 4) (v := .int .i64 ((x7l : Nat) : Int)) rfl (by kernel_rfl) (W_none rfl) (fun _ => y_len Try.underlying43 rfl (map_ev1 (ev_tv rfl rfl))) hS ?_
  intro hS
  obtain ⟨x8, hc8, H⟩ := H
  refine D_read (i := 5) (v := .pointer x8) rfl (by kernel_rfl) (W_none rfl) (fun wx => World.cell? wx ⟨b2, 0, none⟩ = some (.pointer x8)) hc8 (fun _ hcx => y_load Try.underlying28 rfl (ev_tv rfl rfl) hcx) hS ?_
  intro hS
  obtain ⟨b9, o10, rfl, H⟩ := H
  refine D_pure (i := 6) (v := .pointer (some ⟨b9, o10, none⟩)) rfl (by kernel_rfl) (W_none rfl) (fun _ => y_nilCheck (ev_tv rfl rfl)) hS ?_
  intro hS
  refine D_pure (i := 7) (v := .pointer (some ⟨b9, o10 + 1, none⟩)) rfl (by kernel_rfl) (W_none rfl) (fun _ => Try.fa56_1 (ev_tv rfl rfl)) hS ?_
  intro hS
  obtain ⟨x11, hc9, H⟩ := H
  refine D_read (i := 8) (v := .int .i64 x11) rfl (by kernel_rfl) (W_none rfl) (fun wx => World.cell? wx ⟨b9, o10 + 1, none⟩ = some (.int .i64 x11)) hc9 (fun _ hcx => y_load Try.underlying3 rfl (ev_tv rfl rfl) hcx) hS ?_
  intro hS
  refine D_pure (i := 9) (v := .bool (decide ((((x7l : Nat) : Int) : Int) < x11))) rfl (by kernel_rfl) (W_none rfl) (fun _ => y_lss (ev_tv rfl rfl) (ev_tv rfl rfl)) hS ?_
  intro hS
  refine D_done (by kernel_rfl) ?_
  refine then_norm ?_
  refine hK5 _ _ ?_
  clear hK5
  rcases (Decidable.em ((((x7l : Nat) : Int) : Int) < x11)) with hb10 | hb10
  · replace H := H.1 hb10
    have hq11 : Value.bool (decide ((((x7l : Nat) : Int) : Int) < x11)) = Value.bool true := congrArg Value.bool (decide_eq_true hb10)
    refine cond_t (ev_tv rfl hq11) ?_
    refine c_seq ?_
    intro K12 hK12
    refine c_region ?_
    refine L_val (v := .bool true) (y_assign ev_c) ?_
    refine l_nil ?_
    refine then_norm ?_
    refine hK12 _ _ ?_
    clear hK12
    refine c_ret ?_
    refine then_ret ?_
    exact body_1 rfl (ev_tv rfl rfl) H
  · replace H := H.2 hb10
    have hq11 : Value.bool (decide ((((x7l : Nat) : Int) : Int) < x11)) = Value.bool false := congrArg Value.bool (decide_eq_false hb10)
    refine cond_f (ev_tv rfl hq11) ?_
    refine c_skip ?_
    refine then_norm ?_
    refine hK4 _ _ ?_
    clear hK4
    refine c_seq ?_
    intro K13 hK13
    refine c_region ?_
    obtain ⟨x12, hc14, H⟩ := H
    refine L_val (v := .pointer x12) (y_load Try.underlying28 rfl (ev_tv rfl rfl) hc14) ?_
    obtain ⟨b13, o14, rfl, H⟩ := H
    refine L_val (v := .pointer (some ⟨b13, o14, none⟩)) (y_nilCheck (ev_tv rfl rfl)) ?_
    refine L_val (v := .pointer (some ⟨b13, o14 + 3, none⟩)) (Try.fa56_3 (ev_tv rfl rfl)) ?_
    obtain ⟨x15, x15l, x15c, hc15, H⟩ := H
    refine L_val (v := .slice x15 x15l x15c) (y_load Try.underlying43 rfl (ev_tv rfl rfl) hc15) ?_
    refine L_val (v := .func (.func 35) #[] #[.pointer (some ⟨b2, 0, none⟩)]) (y_makeFunc map_ev0 (map_ev1 (ev_tv rfl rfl))) ?_
    refine L_call (y_call Try.call34 (map_ev2 (ev_tv rfl rfl) (ev_tv rfl rfl)) ev_f) (Calls.mono H ?_)
    clear H
    rintro _ w17 ⟨x16, rfl, H⟩
    refine ⟨_, rfl, ?_⟩
    refine L_val (v := .int .i64 x16) (y_assign (ev_tv rfl rfl)) ?_
    refine l_nil ?_
    refine then_norm ?_
    refine hK13 _ _ ?_
    clear hK13
    refine c_seq ?_
    intro K16 hK16
    refine c_seq ?_
    intro K17 hK17
    refine c_region ?_
    refine L_val (v := .int .i64 x16) (y_move (ev_tv rfl rfl)) ?_
    refine L_val (v := .bool (decide ((x16 : Int) < 0))) (y_lss (ev_tv rfl rfl) ev_c) ?_
    refine l_nil ?_
    refine then_norm ?_
    refine hK17 _ _ ?_
    clear hK17
    rcases (Decidable.em ((x16 : Int) < 0)) with hb18 | hb18
    · replace H := H.1 hb18
      have hq19 : Value.bool (decide ((x16 : Int) < 0)) = Value.bool true := congrArg Value.bool (decide_eq_true hb18)
      refine cond_t (ev_tv rfl hq19) ?_
      refine c_seq ?_
      intro K20 hK20
      refine c_region ?_
      refine L_val (v := .bool false) (y_assign ev_c) ?_
      refine l_nil ?_
      refine then_norm ?_
      refine hK20 _ _ ?_
      clear hK20
      refine c_ret ?_
      refine then_ret ?_
      exact body_1 rfl (ev_tv rfl rfl) H
    · replace H := H.2 hb18
      have hq19 : Value.bool (decide ((x16 : Int) < 0)) = Value.bool false := congrArg Value.bool (decide_eq_false hb18)
      refine cond_f (ev_tv rfl hq19) ?_
      refine c_skip ?_
      refine then_norm ?_
      refine hK16 _ _ ?_
      clear hK16
      refine c_seq ?_
      intro K21 hK21
      refine D_start Try.mixed rfl [11] ?_
      refine start_keep fun hS => ?_
      refine D_pure (i := 8) (v := .int .i64 x16) rfl (by kernel_rfl) (W_none rfl) (fun _ => y_move (ev_tv rfl rfl)) hS ?_
      intro hS
      obtain ⟨x19, hc22, H⟩ := H
      refine D_read (i := 0) (v := .pointer x19) rfl (by kernel_rfl) (W_none rfl) (fun wx => World.cell? wx ⟨b2, 0, none⟩ = some (.pointer x19)) hc22 (fun _ hcx => y_load Try.underlying28 rfl (ev_tv rfl rfl) hcx) hS ?_
      intro hS
      obtain ⟨b20, o21, rfl, H⟩ := H
      refine D_pure (i := 1) (v := .pointer (some ⟨b20, o21, none⟩)) rfl (by kernel_rfl) (W_none rfl) (fun _ => y_nilCheck (ev_tv rfl rfl)) hS ?_
      intro hS
      refine D_pure (i := 2) (v := .pointer (some ⟨b20, o21 + 2, none⟩)) rfl (by kernel_rfl) (W_none rfl) (fun _ => Try.fa56_2 (ev_tv rfl rfl)) hS ?_
      intro hS
      obtain ⟨x22, hc23, H⟩ := H
      refine D_read (i := 3) (v := .map x22) rfl (by kernel_rfl) (W_none rfl) (fun wx => World.cell? wx ⟨b20, o21 + 2, none⟩ = some (.map x22)) hc23 (fun _ hcx => y_load Try.underlying52 rfl (ev_tv rfl rfl) hcx) hS ?_
      intro hS
      obtain ⟨x23, hc24, H⟩ := H
      refine D_read (i := 4) (v := .pointer x23) rfl (by kernel_rfl) (W_none rfl) (fun wx => World.cell? wx ⟨b2, 0, none⟩ = some (.pointer x23)) hc24 (fun _ hcx => y_load Try.underlying28 rfl (ev_tv rfl rfl) hcx) hS ?_
      intro hS
      obtain ⟨b24, o25, rfl, H⟩ := H
      refine D_pure (i := 5) (v := .pointer (some ⟨b24, o25, none⟩)) rfl (by kernel_rfl) (W_none rfl) (fun _ => y_nilCheck (ev_tv rfl rfl)) hS ?_
      intro hS
      refine D_pure (i := 6) (v := .pointer (some ⟨b24, o25 + 3, none⟩)) rfl (by kernel_rfl) (W_none rfl) (fun _ => Try.fa56_3 (ev_tv rfl rfl)) hS ?_
      intro hS
      obtain ⟨x26, x26l, x26c, hc25, H⟩ := H
      refine D_read (i := 7) (v := .slice x26 x26l x26c) rfl (by kernel_rfl) (W_none rfl) (fun wx => World.cell? wx ⟨b24, o25 + 3, none⟩ = some (.slice x26 x26l x26c)) hc25 (fun _ hcx => y_load Try.underlying43 rfl (ev_tv rfl rfl) hcx) hS ?_
      intro hS
      obtain ⟨b27, o28, rfl, H⟩ := H
      obtain ⟨hi26, hi27, H⟩ := H
      refine D_pure (i := 9) (v := .pointer (some ⟨b27, o28 + (x16 : Int).toNat, none⟩)) rfl (by kernel_rfl) (W_none rfl) (fun _ => y_ix1 Try.underlying43 Try.type3 rfl (ev_tv rfl rfl) (ev_tv rfl rfl) hi26 hi27) hS ?_
      intro hS
      obtain ⟨x29, hc28, H⟩ := H
      refine D_read (i := 10) (v := .int .i64 x29) rfl (by kernel_rfl) (W_none rfl) (fun wx => World.cell? wx ⟨b27, o28 + (x16 : Int).toNat, none⟩ = some (.int .i64 x29)) hc28 (fun _ hcx => y_load Try.underlying3 rfl (ev_tv rfl rfl) hcx) hS ?_
      intro hS
      refine D_only (i := 11) (by kernel_rfl) rfl ?_
      obtain ⟨w30, hc29, H⟩ := H
      refine O_valn (i := 11) (v := .tuple #[]) rfl (W_none rfl) (y_bi_delete (map_ev2 (ev_tv rfl rfl) (ev_tv rfl rfl)) hc29) ?_
      obtain ⟨hs48, hs49, hs50, H⟩ := H
      refine and_keep (SS_off (by kernel_rfl) (SS_on hs48 (SS_on hs49 (SS_off (by kernel_rfl) (SS_on hs50 SS_nil))))) fun hS => ?_
      refine D_done (by kernel_rfl) ?_
      refine then_norm ?_
      refine hK21 _ _ ?_
      clear hK21
      refine c_seq ?_
      intro K30 hK30
      refine D_start Try.mixed rfl [8, 11] ?_
      refine start_keep fun hS => ?_
      refine D_pure (i := 5) (v := .int .i64 x16) rfl (by kernel_rfl) (W_none rfl) (fun _ => y_move (ev_tv rfl rfl)) hS ?_
      intro hS
      refine D_pure (i := 6) (v := .int .i64 x16) rfl (by kernel_rfl) (W_none rfl) (fun _ => y_move (ev_tv rfl rfl)) hS ?_
      intro hS
      obtain ⟨r31, hr31⟩ : ∃ r31 : Int, r31 = IntKind.wrap .i64 (x16 + 1) := ⟨_, rfl⟩
      replace H := H r31 hr31
      refine D_pure (i := 7) (v := .int .i64 r31) rfl (by kernel_rfl) (W_none rfl) (fun _ => y_add (ev_tv rfl rfl) ev_c hr31) hS ?_
      intro hS
      obtain ⟨x32, hc32, H⟩ := H
      refine D_read (i := 0) (v := .pointer x32) rfl (by kernel_rfl) (W_none rfl) (fun wx => World.cell? wx ⟨b2, 0, none⟩ = some (.pointer x32)) hc32 (fun _ hcx => y_load Try.underlying28 rfl (ev_tv rfl rfl) hcx) hS ?_
      intro hS
      obtain ⟨x33, hc33, H⟩ := H
      refine D_read (i := 1) (v := .pointer x33) rfl (by kernel_rfl) (W_none rfl) (fun wx => World.cell? wx ⟨b2, 0, none⟩ = some (.pointer x33)) hc33 (fun _ hcx => y_load Try.underlying28 rfl (ev_tv rfl rfl) hcx) hS ?_
      intro hS
      obtain ⟨b34, o35, rfl, H⟩ := H
      refine D_pure (i := 2) (v := .pointer (some ⟨b34, o35, none⟩)) rfl (by kernel_rfl) (W_none rfl) (fun _ => y_nilCheck (ev_tv rfl rfl)) hS ?_
      intro hS
      refine D_pure (i := 3) (v := .pointer (some ⟨b34, o35 + 3, none⟩)) rfl (by kernel_rfl) (W_none rfl) (fun _ => Try.fa56_3 (ev_tv rfl rfl)) hS ?_
      intro hS
      obtain ⟨x36, x36l, x36c, hc34, H⟩ := H
      refine D_read (i := 4) (v := .slice x36 x36l x36c) rfl (by kernel_rfl) (W_none rfl) (fun wx => World.cell? wx ⟨b34, o35 + 3, none⟩ = some (.slice x36 x36l x36c)) hc34 (fun _ hcx => y_load Try.underlying43 rfl (ev_tv rfl rfl) hcx) hS ?_
      intro hS
      refine D_only (i := 8) (by kernel_rfl) rfl ?_
      refine O_call (i := 8) rfl (W_none rfl) (y_call Try.call36 (map_ev3 (ev_tv rfl rfl) (ev_tv rfl rfl) (ev_tv rfl rfl)) ev_f) (Calls.mono H ?_)
      clear H
      rintro _ w38 ⟨x37, x37l, x37c, rfl, H⟩
      refine ⟨_, rfl, ?_⟩
      obtain ⟨hs46, hs47, H⟩ := H
      refine and_keep (SS_off (by kernel_rfl) (SS_on hs46 (SS_on hs47 SS_nil))) fun hS => ?_
      obtain ⟨b39, o40, rfl, H⟩ := H
      refine D_pure (i := 9) (v := .pointer (some ⟨b39, o40, none⟩)) rfl (by kernel_rfl) (W_none rfl) (fun _ => y_nilCheck (ev_tv rfl rfl)) hS ?_
      intro hS
      refine D_pure (i := 10) (v := .pointer (some ⟨b39, o40 + 3, none⟩)) rfl (by kernel_rfl) (W_none rfl) (fun _ => Try.fa56_3 (ev_tv rfl rfl)) hS ?_
      intro hS
      refine D_only (i := 11) (by kernel_rfl) rfl ?_
      obtain ⟨hc35, hf36, H⟩ := H
      obtain ⟨w41, hw37⟩ : ∃ w41 : World, w41 = World.setCell w38 ⟨b39, o40 + 3, none⟩ (.slice x37 x37l x37c) := ⟨_, rfl⟩
      replace H := H w41 hw37
      refine O_skip (i := 11) rfl (W_none rfl) (y_store Try.type43 rfl rfl (ev_tv rfl rfl) (ev_tv rfl rfl) hc35 hf36 hw37) ?_
      refine and_keep (SS_off (by kernel_rfl) (SS_off (by kernel_rfl) (SS_off (by kernel_rfl) SS_nil))) fun hS => ?_
      refine D_done (by kernel_rfl) ?_
      refine then_norm ?_
      refine hK30 _ _ ?_
      clear hK30
      refine c_seq ?_
      intro K38 hK38
      refine c_region ?_
      obtain ⟨x42, hc39, H⟩ := H
      refine L_val (v := .pointer x42) (y_load Try.underlying28 rfl (ev_tv rfl rfl) hc39) ?_
      obtain ⟨b43, o44, rfl, H⟩ := H
      refine L_val (v := .pointer (some ⟨b43, o44, none⟩)) (y_nilCheck (ev_tv rfl rfl)) ?_
      refine L_val (v := .pointer (some ⟨b43, o44 + 4, none⟩)) (Try.fa56_4 (ev_tv rfl rfl)) ?_
      refine L_val (v := .pointer (some ⟨b43, o44 + 4 + 2, none⟩)) (Try.fa54_2 (ev_tv rfl rfl)) ?_
      obtain ⟨x45, hc40, H⟩ := H
      refine L_val (v := .int .i64 x45) (y_load Try.underlying3 rfl (ev_tv rfl rfl) hc40) ?_
      obtain ⟨r46, hr41⟩ : ∃ r46 : Int, r46 = IntKind.wrap .i64 (x45 + 1) := ⟨_, rfl⟩
      replace H := H r46 hr41
      refine L_val (v := .int .i64 r46) (y_add (ev_tv rfl rfl) ev_c hr41) ?_
      refine L_val (v := .pointer (some ⟨b43, o44, none⟩)) (y_nilCheck (ev_tv rfl rfl)) ?_
      refine L_val (v := .pointer (some ⟨b43, o44 + 4, none⟩)) (Try.fa56_4 (ev_tv rfl rfl)) ?_
      refine L_val (v := .pointer (some ⟨b43, o44 + 4 + 2, none⟩)) (Try.fa54_2 (ev_tv rfl rfl)) ?_
      obtain ⟨hc42, hf43, H⟩ := H
      obtain ⟨w47, hw44⟩ : ∃ w47 : World, w47 = World.setCell w41 ⟨b43, o44 + 4 + 2, none⟩ (.int .i64 r46) := ⟨_, rfl⟩
      replace H := H w47 hw44
      refine L_skip (y_store Try.type3 rfl rfl (ev_tv rfl rfl) (ev_tv rfl rfl) hc42 hf43 hw44) ?_
      refine l_nil ?_
      refine then_norm ?_
      refine hK38 _ _ ?_
      clear hK38
      refine c_seq ?_
      intro K45 hK45
      refine c_region ?_
      refine L_val (v := .bool true) (y_assign ev_c) ?_
      refine l_nil ?_
      refine then_norm ?_
      refine hK45 _ _ ?_
      clear hK45
      refine c_ret ?_
      exact body_1 rfl (ev_tv rfl rfl) H

/-- (parapet/disk.Disk).Write -/
def Vc26 (a_d1 : Option Addr) (a_n2 : Int) (a_b3 : Option Addr) (a_b3l : Nat) (a_b3c : Nat) (w : World) (R : Ending → World → Prop) : Prop :=
  (((a_d1 = none) → R (.returned (.int .i64 6)) w) ∧ ((a_d1 ≠ none) → (Calls Try.prog 33 #[.pointer a_d1, .int .i64 a_n2] w fun e w5 => ∃ x4 : Bool, e = .returned (.bool x4) ∧ (((x4 = true) → (((¬ ((((a_b3l : Nat) : Int) : Int) = 512)) → R (.returned (.int .i64 1)) w5) ∧ (((((a_b3l : Nat) : Int) : Int) = 512) → (Calls Try.prog 30 #[.pointer a_d1] w5 fun e w8 => ∃ x7 : Bool, e = .returned (.bool x7) ∧ (((x7 = true) → (Calls Try.prog 23 #[.slice a_b3 a_b3l a_b3c] w8 fun e w11 => ∃ x10 : Option Addr, ∃ x10l : Nat, ∃ x10c : Nat, e = .returned (.slice x10 x10l x10c) ∧ (∀ (b13 : Nat) (w14 : World), b13 = World.heapSize w11 → w14 = World.alloc w11 (.cells #[.int .i64 0, .slice none 0 0] 66) → ((∀ j, j < 2 → (World.cell? w14 (Addr.add ⟨b13, 0, none⟩ j)).isSome = true ∧ World.frozen? w14 (Addr.add ⟨b13, 0, none⟩ j) = false) ∧ ∀ w15 : World, w15 = putCells w14 ⟨b13, 0, none⟩ [.int .i64 a_n2, .slice x10 x10l x10c] 0 → (∃ (b16 o17 : Nat), a_d1 = some ⟨b16, o17, none⟩ ∧ (∃ x18 : Option Addr, ∃ x18l : Nat, ∃ x18c : Nat, World.cell? (w15.drew) ⟨b16, o17 + 1, none⟩ = some (.slice x18 x18l x18c) ∧ (∃ x19 : Int, ∃ x20 : Option Addr, ∃ x20l : Nat, ∃ x20c : Nat, CellsAt (w15.drew) ⟨b13, 0, none⟩ [.int .i64 x19, .slice x20 x20l x20c] ∧ (∀ (b21 : Nat) (w22 : World), b21 = World.heapSize (w15.drew) → w22 = World.alloc (w15.drew) (.cells #[.int .i64 x19, .slice x20 x20l x20c] 66) → (World.cell? w22 ⟨b16, o17 + 1, none⟩ = some (.slice x18 x18l x18c) ∧ (∃ x24 : Option Addr, ∃ x24l : Nat, ∃ x24c : Nat, ∃ w23 : World, (Builtin.append_ #[49, 49] 49 #[.slice x18 x18l x18c, .slice (some ⟨b21, 0, none⟩) 1 1]).run Try.prog w22 = .ok (.slice x24 x24l x24c) w23 ∧ ((World.cell? w23 ⟨b16, o17 + 1, none⟩).isSome = true ∧ World.frozen? w23 ⟨b16, o17 + 1, none⟩ = false ∧ ∀ w25 : World, w25 = World.setCell w23 ⟨b16, o17 + 1, none⟩ (.slice x24 x24l x24c) → (∃ x26 : Option Nat, World.cell? (w25.drew) ⟨b16, o17 + 2, none⟩ = some (.map x26) ∧ (∃ x27 : Option Addr, ∃ x27l : Nat, ∃ x27c : Nat, World.cell? (w25.drew) ⟨b13, 0 + 1, none⟩ = some (.slice x27 x27l x27c) ∧ (∃ w28 : World, (Instr.mapUpdate 48 (.map x26) (.int .i64 a_n2) (.slice x27 x27l x27c)).run Try.prog (w25.drew) = .ok () w28 ∧ (∃ x29 : Int, World.cell? w28 ⟨b16, o17 + 6, none⟩ = some (.int .i64 x29) ∧ (∀ r30 : Int, r30 = IntKind.wrap .i64 (x29 + 1) → ((World.cell? w28 ⟨b16, o17 + 6, none⟩).isSome = true ∧ World.frozen? w28 ⟨b16, o17 + 6, none⟩ = false ∧ ∀ w31 : World, w31 = World.setCell w28 ⟨b16, o17 + 6, none⟩ (.int .i64 r30) → R (.returned (.int .i64 0)) w31))))))))))))))))) ∧ ((x7 = false) → R (.returned (.int .i64 0)) w8)))))) ∧ ((x4 = false) → R (.returned (.int .i64 20)) w5)))))

theorem vc26 {a_d1 : Option Addr} {a_n2 : Int} {a_b3 : Option Addr} {a_b3l : Nat} {a_b3c : Nat} {w : World} {R : Ending → World → Prop} (H : Vc26 a_d1 a_n2 a_b3 a_b3l a_b3c w R) : Calls Try.prog 26 #[.pointer a_d1, .int .i64 a_n2, .slice a_b3 a_b3l a_b3c] w R := by
  unfold Vc26 at H
  refine calls_start [.pointer a_d1, .int .i64 a_n2, .slice a_b3 a_b3l a_b3c] Try.func26 rfl Try.ntmps26 rfl ?_
  refine c_seq ?_
  intro K1 hK1
  refine c_region ?_
  refine L_val (v := .int .i64 0) (y_assign ev_c) ?_
  refine l_nil ?_
  refine then_norm ?_
  refine hK1 _ _ ?_
  clear hK1
  refine c_seq ?_
  intro K2 hK2
  refine c_block ?_
  refine c_seq ?_
  intro K3 hK3
  refine c_region ?_
  refine L_val (v := .pointer a_d1) (y_move (ev_tv rfl rfl)) ?_
  refine L_val (v := .bool (a_d1.isNone)) (y_peq Try.underlying23 (ev_tv rfl rfl) ev_c) ?_
  refine L_val (v := .bool (a_d1.isNone)) (y_assign (ev_tv rfl rfl)) ?_
  refine l_nil ?_
  refine then_norm ?_
  refine hK3 _ _ ?_
  clear hK3
  rcases (Classical.em (a_d1 = none)) with hb4 | hb4
  · replace H := H.1 hb4
    have hq5 : Value.bool (a_d1.isNone) = Value.bool true := congrArg Value.bool (isn_t hb4)
    refine cond_t (ev_tv rfl hq5) ?_
    refine c_seq ?_
    intro K6 hK6
    refine c_region ?_
    refine L_val (v := .int .i64 6) (y_assign ev_c) ?_
    refine l_nil ?_
    refine then_norm ?_
    refine hK6 _ _ ?_
    clear hK6
    refine c_ret ?_
    refine block_ret ?_
    refine then_ret ?_
    exact body_1 rfl (ev_tv rfl rfl) H
  · replace H := H.2 hb4
    have hq5 : Value.bool (a_d1.isNone) = Value.bool false := congrArg Value.bool (isn_f hb4)
    refine cond_f (ev_tv rfl hq5) ?_
    refine c_seq ?_
    intro K7 hK7
    refine c_region ?_
    refine L_val (v := .pointer a_d1) (y_move (ev_tv rfl rfl)) ?_
    refine L_val (v := .int .i64 a_n2) (y_move (ev_tv rfl rfl)) ?_
    refine L_call (y_call Try.call33 (map_ev2 (ev_tv rfl rfl) (ev_tv rfl rfl)) ev_f) (Calls.mono H ?_)
    clear H
    rintro _ w5 ⟨x4, rfl, H⟩
    refine ⟨_, rfl, ?_⟩
    rcases Bool.eq_false_or_eq_true x4 with hb8 | hb8
    · replace H := H.1 hb8
      have hq9 : Value.bool (x4) = Value.bool true := congrArg Value.bool hb8
      refine L_val (v := .bool false) (y_not_t (ev_tv rfl hq9)) ?_
      refine L_val (v := .bool false) (y_assign (ev_tv rfl rfl)) ?_
      refine l_nil ?_
      refine then_norm ?_
      refine hK7 _ _ ?_
      clear hK7
      refine cond_f (ev_tv rfl rfl) ?_
      refine c_seq ?_
      intro K10 hK10
      refine c_region ?_
      refine L_val (v := .slice a_b3 a_b3l a_b3c) (y_move (ev_tv rfl rfl)) ?_
      refine L_val (v := .int .i64 ((a_b3l : Nat) : Int)) (y_len Try.underlying33 rfl (map_ev1 (ev_tv rfl rfl))) ?_
      refine L_val (v := .bool (!decide ((((a_b3l : Nat) : Int) : Int) = 512))) (y_ine (ev_tv rfl rfl) ev_c) ?_
      refine L_val (v := .bool (!decide ((((a_b3l : Nat) : Int) : Int) = 512))) (y_assign (ev_tv rfl rfl)) ?_
      refine l_nil ?_
      refine then_norm ?_
      refine hK10 _ _ ?_
      clear hK10
      rcases (Decidable.em ((((a_b3l : Nat) : Int) : Int) = 512)).symm with hb11 | hb11
      · replace H := H.1 hb11
        have hq12 : Value.bool (!decide ((((a_b3l : Nat) : Int) : Int) = 512)) = Value.bool true := congrArg Value.bool (ndec_t hb11)
        refine cond_t (ev_tv rfl hq12) ?_
        refine c_seq ?_
        intro K13 hK13
        refine c_region ?_
        refine L_val (v := .int .i64 1) (y_assign ev_c) ?_
        refine l_nil ?_
        refine then_norm ?_
        refine hK13 _ _ ?_
        clear hK13
        refine c_ret ?_
        refine block_ret ?_
        refine then_ret ?_
        exact body_1 rfl (ev_tv rfl rfl) H
      · replace H := H.2 hb11
        have hq12 : Value.bool (!decide ((((a_b3l : Nat) : Int) : Int) = 512)) = Value.bool false := congrArg Value.bool (ndec_f hb11)
        refine cond_f (ev_tv rfl hq12) ?_
        refine c_seq ?_
        intro K14 hK14
        refine c_region ?_
        refine L_val (v := .pointer a_d1) (y_move (ev_tv rfl rfl)) ?_
        refine L_call (y_call Try.call30 (map_ev1 (ev_tv rfl rfl)) ev_f) (Calls.mono H ?_)
        clear H
        rintro _ w8 ⟨x7, rfl, H⟩
        refine ⟨_, rfl, ?_⟩
        rcases Bool.eq_false_or_eq_true x7 with hb15 | hb15
        · replace H := H.1 hb15
          have hq16 : Value.bool (x7) = Value.bool true := congrArg Value.bool hb15
          refine L_val (v := .bool false) (y_not_t (ev_tv rfl hq16)) ?_
          refine L_val (v := .bool false) (y_assign (ev_tv rfl rfl)) ?_
          refine l_nil ?_
          refine then_norm ?_
          refine hK14 _ _ ?_
          clear hK14
          refine cond_f (ev_tv rfl rfl) ?_
          refine c_skip ?_
          refine block_norm ?_
          refine then_norm ?_
          refine hK2 _ _ ?_
          clear hK2
          refine c_seq ?_
          intro K17 hK17
          refine c_region ?_
          refine L_val (v := .int .i64 a_n2) (y_move (ev_tv rfl rfl)) ?_
          refine L_val (v := .slice a_b3 a_b3l a_b3c) (y_move (ev_tv rfl rfl)) ?_
          refine L_call (y_call Try.call23 (map_ev1 (ev_tv rfl rfl)) ev_f) (Calls.mono H ?_)
          clear H
          rintro _ w11 ⟨x10, x10l, x10c, rfl, H⟩
          refine ⟨_, rfl, ?_⟩
          refine L_val (v := .agg #[.int .i64 a_n2, .slice x10 x10l x10c]) (y_build (parts_ev2 (ev_tv rfl rfl) (ev_tv rfl rfl)) (by kernel_rfl)) ?_
          obtain ⟨b13, hb18⟩ : ∃ b13 : Nat, b13 = World.heapSize w11 := ⟨_, rfl⟩
          obtain ⟨w14, hw19⟩ : ∃ w14 : World, w14 = World.alloc w11 (.cells #[.int .i64 0, .slice none 0 0] 66) := ⟨_, rfl⟩
          replace H := H b13 w14 hb18 hw19
          refine L_val (v := .pointer (some ⟨b13, 0, none⟩)) (y_alloc Try.type66 rfl rfl hb18 hw19) ?_
          obtain ⟨hc20, H⟩ := H
          obtain ⟨w15, hw22⟩ : ∃ w15 : World, w15 = putCells w14 ⟨b13, 0, none⟩ [.int .i64 a_n2, .slice x10 x10l x10c] 0 := ⟨_, rfl⟩
          replace H := H w15 hw22
          refine L_skip (y_storeAgg Try.type66 rfl (by intro v hv; simp only [List.mem_cons, List.not_mem_nil, or_false] at hv; rcases hv with rfl | rfl <;> rfl) (ev_tv rfl rfl) (ev_tv rfl rfl) hc20 hw22) ?_
          refine l_nil ?_
          refine then_norm ?_
          refine hK17 _ _ ?_
          clear hK17
          refine c_seq ?_
          intro K23 hK23
          refine D_start Try.mixed rfl [6, 7, 10] ?_
          refine start_keep fun hS => ?_
          refine D_pure (i := 0) (v := .pointer a_d1) rfl (by kernel_rfl) (W_none rfl) (fun _ => y_move (ev_tv rfl rfl)) hS ?_
          intro hS
          refine D_pure (i := 1) (v := .pointer a_d1) rfl (by kernel_rfl) (W_none rfl) (fun _ => y_move (ev_tv rfl rfl)) hS ?_
          intro hS
          obtain ⟨b16, o17, rfl, H⟩ := H
          refine D_pure (i := 2) (v := .pointer (some ⟨b16, o17, none⟩)) rfl (by kernel_rfl) (W_none rfl) (fun _ => y_nilCheck (ev_tv rfl rfl)) hS ?_
          intro hS
          refine D_pure (i := 3) (v := .pointer (some ⟨b16, o17 + 1, none⟩)) rfl (by kernel_rfl) (W_none rfl) (fun _ => Try.fa51_1 (ev_tv rfl rfl)) hS ?_
          intro hS
          obtain ⟨x18, x18l, x18c, hc24, H⟩ := H
          refine D_read (i := 4) (v := .slice x18 x18l x18c) rfl (by kernel_rfl) (W_none rfl) (fun wx => World.cell? wx ⟨b16, o17 + 1, none⟩ = some (.slice x18 x18l x18c)) hc24 (fun _ hcx => y_load Try.underlying49 rfl (ev_tv rfl rfl) hcx) hS ?_
          intro hS
          obtain ⟨x19, x20, x20l, x20c, hc25, H⟩ := H
          refine D_read (i := 5) (v := .agg #[.int .i64 x19, .slice x20 x20l x20c]) rfl (by kernel_rfl) (W_none rfl) (fun wx => CellsAt wx ⟨b13, 0, none⟩ [.int .i64 x19, .slice x20 x20l x20c]) hc25 (fun _ hcx => y_loadAgg Try.underlying66 rfl Try.type66 rfl (ev_tv rfl rfl) hcx) hS ?_
          intro hS
          refine D_only (i := 6) (by kernel_rfl) rfl ?_
          obtain ⟨b21, hb26⟩ : ∃ b21 : Nat, b21 = World.heapSize (w15.drew) := ⟨_, rfl⟩
          obtain ⟨w22, hw27⟩ : ∃ w22 : World, w22 = World.alloc (w15.drew) (.cells #[.int .i64 x19, .slice x20 x20l x20c] 66) := ⟨_, rfl⟩
          replace H := H b21 w22 hb26 hw27
          refine O_val (i := 6) (v := .slice (some ⟨b21, 0, none⟩) 1 1) rfl (W_none rfl) (y_buildSlice (parts_ev1 (ev_tv rfl rfl)) hb26 hw27 (by kernel_rfl)) ?_
          obtain ⟨hs43, H⟩ := H
          refine and_keep (SS_off (by kernel_rfl) (SS_on hs43 SS_nil)) fun hS => ?_
          refine D_only (i := 7) (by kernel_rfl) rfl ?_
          obtain ⟨x24, x24l, x24c, w23, hc28, H⟩ := H
          refine O_val (i := 7) (v := .slice x24 x24l x24c) rfl (W_none rfl) (y_bi_append (map_ev2 (ev_tv rfl rfl) (ev_tv rfl rfl)) hc28) ?_
          refine and_keep (SS_off (by kernel_rfl) (SS_off (by kernel_rfl) SS_nil)) fun hS => ?_
          refine D_pure (i := 8) (v := .pointer (some ⟨b16, o17, none⟩)) rfl (by kernel_rfl) (W_none rfl) (fun _ => y_nilCheck (ev_tv rfl rfl)) hS ?_
          intro hS
          refine D_pure (i := 9) (v := .pointer (some ⟨b16, o17 + 1, none⟩)) rfl (by kernel_rfl) (W_none rfl) (fun _ => Try.fa51_1 (ev_tv rfl rfl)) hS ?_
          intro hS
          refine D_only (i := 10) (by kernel_rfl) rfl ?_
          obtain ⟨hc29, hf30, H⟩ := H
          obtain ⟨w25, hw31⟩ : ∃ w25 : World, w25 = World.setCell w23 ⟨b16, o17 + 1, none⟩ (.slice x24 x24l x24c) := ⟨_, rfl⟩
          replace H := H w25 hw31
          refine O_skip (i := 10) rfl (W_none rfl) (y_store Try.type49 rfl rfl (ev_tv rfl rfl) (ev_tv rfl rfl) hc29 hf30 hw31) ?_
          refine and_keep (SS_off (by kernel_rfl) (SS_off (by kernel_rfl) SS_nil)) fun hS => ?_
          refine D_done (by kernel_rfl) ?_
          refine then_norm ?_
          refine hK23 _ _ ?_
          clear hK23
          refine c_seq ?_
          intro K32 hK32
          refine D_start Try.mixed rfl [7] ?_
          refine start_keep fun hS => ?_
          refine D_pure (i := 0) (v := .pointer (some ⟨b16, o17, none⟩)) rfl (by kernel_rfl) (W_none rfl) (fun _ => y_move (ev_tv rfl rfl)) hS ?_
          intro hS
          refine D_pure (i := 1) (v := .pointer (some ⟨b16, o17, none⟩)) rfl (by kernel_rfl) (W_none rfl) (fun _ => y_nilCheck (ev_tv rfl rfl)) hS ?_
          intro hS
          refine D_pure (i := 2) (v := .pointer (some ⟨b16, o17 + 2, none⟩)) rfl (by kernel_rfl) (W_none rfl) (fun _ => Try.fa51_2 (ev_tv rfl rfl)) hS ?_
          intro hS
          refine D_pure (i := 4) (v := .int .i64 a_n2) rfl (by kernel_rfl) (W_none rfl) (fun _ => y_move (ev_tv rfl rfl)) hS ?_
          intro hS
          refine D_pure (i := 5) (v := .pointer (some ⟨b13, 0 + 1, none⟩)) rfl (by kernel_rfl) (W_none rfl) (fun _ => Try.fa66_1 (ev_tv rfl rfl)) hS ?_
          intro hS
          obtain ⟨x26, hc33, H⟩ := H
          refine D_read (i := 3) (v := .map x26) rfl (by kernel_rfl) (W_none rfl) (fun wx => World.cell? wx ⟨b16, o17 + 2, none⟩ = some (.map x26)) hc33 (fun _ hcx => y_load Try.underlying48 rfl (ev_tv rfl rfl) hcx) hS ?_
          intro hS
          obtain ⟨x27, x27l, x27c, hc34, H⟩ := H
          refine D_read (i := 6) (v := .slice x27 x27l x27c) rfl (by kernel_rfl) (W_none rfl) (fun wx => World.cell? wx ⟨b13, 0 + 1, none⟩ = some (.slice x27 x27l x27c)) hc34 (fun _ hcx => y_load Try.underlying33 rfl (ev_tv rfl rfl) hcx) hS ?_
          intro hS
          refine D_only (i := 7) (by kernel_rfl) rfl ?_
          obtain ⟨w28, hw35, H⟩ := H
          refine O_skip (i := 7) rfl (W_none rfl) (y_mapUpdate (ev_tv rfl rfl) (ev_tv rfl rfl) (ev_tv rfl rfl) hw35) ?_
          refine and_keep (SS_off (by kernel_rfl) (SS_off (by kernel_rfl) SS_nil)) fun hS => ?_
          refine D_done (by kernel_rfl) ?_
          refine then_norm ?_
          refine hK32 _ _ ?_
          clear hK32
          refine c_seq ?_
          intro K36 hK36
          refine c_region ?_
          refine L_val (v := .pointer (some ⟨b16, o17, none⟩)) (y_move (ev_tv rfl rfl)) ?_
          refine L_val (v := .pointer (some ⟨b16, o17, none⟩)) (y_nilCheck (ev_tv rfl rfl)) ?_
          refine L_val (v := .pointer (some ⟨b16, o17 + 6, none⟩)) (Try.fa51_6 (ev_tv rfl rfl)) ?_
          obtain ⟨x29, hc37, H⟩ := H
          refine L_val (v := .int .i64 x29) (y_load Try.underlying3 rfl (ev_tv rfl rfl) hc37) ?_
          obtain ⟨r30, hr38⟩ : ∃ r30 : Int, r30 = IntKind.wrap .i64 (x29 + 1) := ⟨_, rfl⟩
          replace H := H r30 hr38
          refine L_val (v := .int .i64 r30) (y_add (ev_tv rfl rfl) ev_c hr38) ?_
          refine L_val (v := .pointer (some ⟨b16, o17, none⟩)) (y_nilCheck (ev_tv rfl rfl)) ?_
          refine L_val (v := .pointer (some ⟨b16, o17 + 6, none⟩)) (Try.fa51_6 (ev_tv rfl rfl)) ?_
          obtain ⟨hc39, hf40, H⟩ := H
          obtain ⟨w31, hw41⟩ : ∃ w31 : World, w31 = World.setCell w28 ⟨b16, o17 + 6, none⟩ (.int .i64 r30) := ⟨_, rfl⟩
          replace H := H w31 hw41
          refine L_skip (y_store Try.type3 rfl rfl (ev_tv rfl rfl) (ev_tv rfl rfl) hc39 hf40 hw41) ?_
          refine l_nil ?_
          refine then_norm ?_
          refine hK36 _ _ ?_
          clear hK36
          refine c_seq ?_
          intro K42 hK42
          refine c_region ?_
          refine L_val (v := .int .i64 0) (y_assign ev_c) ?_
          refine l_nil ?_
          refine then_norm ?_
          refine hK42 _ _ ?_
          clear hK42
          refine c_ret ?_
          exact body_1 rfl (ev_tv rfl rfl) H
        · replace H := H.2 hb15
          have hq16 : Value.bool (x7) = Value.bool false := congrArg Value.bool hb15
          refine L_val (v := .bool true) (y_not_f (ev_tv rfl hq16)) ?_
          refine L_val (v := .bool true) (y_assign (ev_tv rfl rfl)) ?_
          refine l_nil ?_
          refine then_norm ?_
          refine hK14 _ _ ?_
          clear hK14
          refine cond_t (ev_tv rfl rfl) ?_
          refine c_seq ?_
          intro K44 hK44
          refine c_region ?_
          refine L_val (v := .int .i64 0) (y_assign ev_c) ?_
          refine l_nil ?_
          refine then_norm ?_
          refine hK44 _ _ ?_
          clear hK44
          refine c_ret ?_
          refine block_ret ?_
          refine then_ret ?_
          exact body_1 rfl (ev_tv rfl rfl) H
    · replace H := H.2 hb8
      have hq9 : Value.bool (x4) = Value.bool false := congrArg Value.bool hb8
      refine L_val (v := .bool true) (y_not_f (ev_tv rfl hq9)) ?_
      refine L_val (v := .bool true) (y_assign (ev_tv rfl rfl)) ?_
      refine l_nil ?_
      refine then_norm ?_
      refine hK7 _ _ ?_
      clear hK7
      refine cond_t (ev_tv rfl rfl) ?_
      refine c_seq ?_
      intro K45 hK45
      refine c_region ?_
      refine L_val (v := .int .i64 20) (y_assign ev_c) ?_
      refine l_nil ?_
      refine then_norm ?_
      refine hK45 _ _ ?_
      clear hK45
      refine c_ret ?_
      refine block_ret ?_
      refine then_ret ?_
      exact body_1 rfl (ev_tv rfl rfl) H

/-- (parapet/buf.Cache).drop -/
def Vc27 (a_c1 : Option Addr) (a_n2 : Int) (w : World) (R : Ending → World → Prop) : Prop :=
  (∀ (b3 : Nat) (w4 : World), b3 = World.heapSize w → w4 = World.alloc w (.cells #[.int .i64 a_n2] 3) → (∃ (b5 o6 : Nat), a_c1 = some ⟨b5, o6, none⟩ ∧ (∃ x7 : Option Addr, ∃ x7l : Nat, ∃ x7c : Nat, World.cell? w4 ⟨b5, o6 + 3, none⟩ = some (.slice x7 x7l x7c) ∧ (Calls Try.prog 37 #[.slice x7 x7l x7c, .func (.func 38) #[] #[.pointer (some ⟨b3, 0, none⟩)]] w4 fun e w9 => ∃ x8 : Option Addr, ∃ x8l : Nat, ∃ x8c : Nat, e = .returned (.slice x8 x8l x8c) ∧ ((World.cell? w9 ⟨b5, o6 + 3, none⟩).isSome = true ∧ World.frozen? w9 ⟨b5, o6 + 3, none⟩ = false ∧ ∀ w11 : World, w11 = World.setCell w9 ⟨b5, o6 + 3, none⟩ (.slice x8 x8l x8c) → R (.returned (.tuple #[])) w11)))))

theorem vc27 {a_c1 : Option Addr} {a_n2 : Int} {w : World} {R : Ending → World → Prop} (H : Vc27 a_c1 a_n2 w R) : Calls Try.prog 27 #[.pointer a_c1, .int .i64 a_n2] w R := by
  unfold Vc27 at H
  refine calls_start [.pointer a_c1, .int .i64 a_n2] Try.func27 rfl Try.ntmps27 rfl ?_
  refine c_seq ?_
  intro K1 hK1
  refine c_region ?_
  obtain ⟨b3, hb2⟩ : ∃ b3 : Nat, b3 = World.heapSize w := ⟨_, rfl⟩
  obtain ⟨w4, hw3⟩ : ∃ w4 : World, w4 = World.alloc w (.cells #[.int .i64 a_n2] 3) := ⟨_, rfl⟩
  replace H := H b3 w4 hb2 hw3
  refine L_val (v := .pointer (some ⟨b3, 0, none⟩)) (y_box (ev_tv rfl rfl) rfl hb2 hw3) ?_
  refine l_nil ?_
  refine then_norm ?_
  refine hK1 _ _ ?_
  clear hK1
  refine c_region ?_
  refine L_val (v := .pointer a_c1) (y_move (ev_tv rfl rfl)) ?_
  refine L_val (v := .pointer a_c1) (y_move (ev_tv rfl rfl)) ?_
  obtain ⟨b5, o6, rfl, H⟩ := H
  refine L_val (v := .pointer (some ⟨b5, o6, none⟩)) (y_nilCheck (ev_tv rfl rfl)) ?_
  refine L_val (v := .pointer (some ⟨b5, o6 + 3, none⟩)) (Try.fa56_3 (ev_tv rfl rfl)) ?_
  obtain ⟨x7, x7l, x7c, hc4, H⟩ := H
  refine L_val (v := .slice x7 x7l x7c) (y_load Try.underlying43 rfl (ev_tv rfl rfl) hc4) ?_
  refine L_val (v := .func (.func 38) #[] #[.pointer (some ⟨b3, 0, none⟩)]) (y_makeFunc map_ev0 (map_ev1 (ev_tv rfl rfl))) ?_
  refine L_call (y_call Try.call37 (map_ev2 (ev_tv rfl rfl) (ev_tv rfl rfl)) ev_f) (Calls.mono H ?_)
  clear H
  rintro _ w9 ⟨x8, x8l, x8c, rfl, H⟩
  refine ⟨_, rfl, ?_⟩
  refine L_val (v := .pointer (some ⟨b5, o6, none⟩)) (y_nilCheck (ev_tv rfl rfl)) ?_
  refine L_val (v := .pointer (some ⟨b5, o6 + 3, none⟩)) (Try.fa56_3 (ev_tv rfl rfl)) ?_
  obtain ⟨hc5, hf6, H⟩ := H
  obtain ⟨w11, hw7⟩ : ∃ w11 : World, w11 = World.setCell w9 ⟨b5, o6 + 3, none⟩ (.slice x8 x8l x8c) := ⟨_, rfl⟩
  replace H := H w11 hw7
  refine L_skip (y_store Try.type43 rfl rfl (ev_tv rfl rfl) (ev_tv rfl rfl) hc5 hf6 hw7) ?_
  refine l_nil ?_
  refine body_norm ?_
  exact body_0 rfl H

/-- slices.Clone[[]int,int] -/
def Vc29 (a_s1 : Option Addr) (a_s1l : Nat) (a_s1c : Nat) (w : World) (R : Ending → World → Prop) : Prop :=
  (((a_s1 = none) → R (.returned (.slice none 0 0)) w) ∧ ((a_s1 ≠ none) → (∀ (b2 : Nat) (w3 : World), b2 = World.heapSize w → w3 = World.alloc w (.cells #[] 3) → (∃ x5 : Option Addr, ∃ x5l : Nat, ∃ x5c : Nat, ∃ w4 : World, (Builtin.append_ #[43, 43] 43 #[.slice (some ⟨b2, 0, none⟩) 0 0, .slice a_s1 a_s1l a_s1c]).run Try.prog w3 = .ok (.slice x5 x5l x5c) w4 ∧ R (.returned (.slice x5 x5l x5c)) w4))))

theorem vc29 {a_s1 : Option Addr} {a_s1l : Nat} {a_s1c : Nat} {w : World} {R : Ending → World → Prop} (H : Vc29 a_s1 a_s1l a_s1c w R) : Calls Try.prog 29 #[.slice a_s1 a_s1l a_s1c] w R := by
  unfold Vc29 at H
  refine calls_start [.slice a_s1 a_s1l a_s1c] Try.func29 rfl Try.ntmps29 rfl ?_
  refine c_seq ?_
  intro K1 hK1
  refine c_region ?_
  refine L_val (v := .slice none 0 0) (y_assign ev_c) ?_
  refine l_nil ?_
  refine then_norm ?_
  refine hK1 _ _ ?_
  clear hK1
  refine c_seq ?_
  intro K2 hK2
  refine c_seq ?_
  intro K3 hK3
  refine c_region ?_
  refine L_val (v := .slice a_s1 a_s1l a_s1c) (y_move (ev_tv rfl rfl)) ?_
  refine L_val (v := .bool (a_s1.isNone)) (y_sleq Try.underlying43 (ev_tv rfl rfl) ev_c) ?_
  refine l_nil ?_
  refine then_norm ?_
  refine hK3 _ _ ?_
  clear hK3
  rcases (Classical.em (a_s1 = none)) with hb4 | hb4
  · replace H := H.1 hb4
    have hq5 : Value.bool (a_s1.isNone) = Value.bool true := congrArg Value.bool (isn_t hb4)
    refine cond_t (ev_tv rfl hq5) ?_
    refine c_seq ?_
    intro K6 hK6
    refine c_region ?_
    refine L_val (v := .slice none 0 0) (y_assign ev_c) ?_
    refine l_nil ?_
    refine then_norm ?_
    refine hK6 _ _ ?_
    clear hK6
    refine c_ret ?_
    refine then_ret ?_
    exact body_1 rfl (ev_tv rfl rfl) H
  · replace H := H.2 hb4
    have hq5 : Value.bool (a_s1.isNone) = Value.bool false := congrArg Value.bool (isn_f hb4)
    refine cond_f (ev_tv rfl hq5) ?_
    refine c_skip ?_
    refine then_norm ?_
    refine hK2 _ _ ?_
    clear hK2
    refine c_seq ?_
    intro K7 hK7
    refine c_region ?_
    obtain ⟨b2, hb8⟩ : ∃ b2 : Nat, b2 = World.heapSize w := ⟨_, rfl⟩
    obtain ⟨w3, hw9⟩ : ∃ w3 : World, w3 = World.alloc w (.cells #[] 3) := ⟨_, rfl⟩
    replace H := H b2 w3 hb8 hw9
    refine L_val (v := .slice (some ⟨b2, 0, none⟩) 0 0) (y_buildSlice rfl hb8 hw9 (by kernel_rfl)) ?_
    refine L_val (v := .slice a_s1 a_s1l a_s1c) (y_move (ev_tv rfl rfl)) ?_
    obtain ⟨x5, x5l, x5c, w4, hc10, H⟩ := H
    refine L_val (v := .slice x5 x5l x5c) (y_bi_append (map_ev2 (ev_tv rfl rfl) (ev_tv rfl rfl)) hc10) ?_
    refine L_val (v := .slice x5 x5l x5c) (y_assign (ev_tv rfl rfl)) ?_
    refine l_nil ?_
    refine then_norm ?_
    refine hK7 _ _ ?_
    clear hK7
    refine c_ret ?_
    exact body_1 rfl (ev_tv rfl rfl) H

/-- (parapet/disk.Disk).does -/
def Vc30 (a_d1 : Option Addr) (w : World) (R : Ending → World → Prop) : Prop :=
  (Calls Try.prog 41 #[.pointer a_d1] w fun e w3 => ∃ x2 : Bool, e = .returned (.bool x2) ∧ (((x2 = true) → R (.returned (.bool false)) w3) ∧ ((x2 = false) → (∃ (b5 o6 : Nat), a_d1 = some ⟨b5, o6, none⟩ ∧ (∃ x7 : Bool, World.cell? w3 ⟨b5, o6 + 3, none⟩ = some (.bool x7) ∧ (((x7 = true) → (∃ x8 : Int, World.cell? w3 ⟨b5, o6 + 4, none⟩ = some (.int .i64 x8) ∧ (∀ r9 : Int, r9 = IntKind.wrap .i64 (x8 - 1) → ((World.cell? w3 ⟨b5, o6 + 4, none⟩).isSome = true ∧ World.frozen? w3 ⟨b5, o6 + 4, none⟩ = false ∧ ∀ w10 : World, w10 = World.setCell w3 ⟨b5, o6 + 4, none⟩ (.int .i64 r9) → R (.returned (.bool true)) w10)))) ∧ ((x7 = false) → R (.returned (.bool true)) w3)))))))

theorem vc30 {a_d1 : Option Addr} {w : World} {R : Ending → World → Prop} (H : Vc30 a_d1 w R) : Calls Try.prog 30 #[.pointer a_d1] w R := by
  unfold Vc30 at H
  refine calls_start [.pointer a_d1] Try.func30 rfl Try.ntmps30 rfl ?_
  refine c_seq ?_
  intro K1 hK1
  refine c_region ?_
  refine L_val (v := .bool false) (y_assign ev_c) ?_
  refine l_nil ?_
  refine then_norm ?_
  refine hK1 _ _ ?_
  clear hK1
  refine c_seq ?_
  intro K2 hK2
  refine c_seq ?_
  intro K3 hK3
  refine c_region ?_
  refine L_val (v := .pointer a_d1) (y_move (ev_tv rfl rfl)) ?_
  refine L_call (y_call Try.call41 (map_ev1 (ev_tv rfl rfl)) ev_f) (Calls.mono H ?_)
  clear H
  rintro _ w3 ⟨x2, rfl, H⟩
  refine ⟨_, rfl, ?_⟩
  refine l_nil ?_
  refine then_norm ?_
  refine hK3 _ _ ?_
  clear hK3
  rcases Bool.eq_false_or_eq_true x2 with hb4 | hb4
  · replace H := H.1 hb4
    have hq5 : Value.bool (x2) = Value.bool true := congrArg Value.bool hb4
    refine cond_t (ev_tv rfl hq5) ?_
    refine c_seq ?_
    intro K6 hK6
    refine c_region ?_
    refine L_val (v := .bool false) (y_assign ev_c) ?_
    refine l_nil ?_
    refine then_norm ?_
    refine hK6 _ _ ?_
    clear hK6
    refine c_ret ?_
    refine then_ret ?_
    exact body_1 rfl (ev_tv rfl rfl) H
  · replace H := H.2 hb4
    have hq5 : Value.bool (x2) = Value.bool false := congrArg Value.bool hb4
    refine cond_f (ev_tv rfl hq5) ?_
    refine c_skip ?_
    refine then_norm ?_
    refine hK2 _ _ ?_
    clear hK2
    refine c_seq ?_
    intro K7 hK7
    refine c_seq ?_
    intro K8 hK8
    refine c_region ?_
    refine L_val (v := .pointer a_d1) (y_move (ev_tv rfl rfl)) ?_
    obtain ⟨b5, o6, rfl, H⟩ := H
    refine L_val (v := .pointer (some ⟨b5, o6, none⟩)) (y_nilCheck (ev_tv rfl rfl)) ?_
    refine L_val (v := .pointer (some ⟨b5, o6 + 3, none⟩)) (Try.fa51_3 (ev_tv rfl rfl)) ?_
    obtain ⟨x7, hc9, H⟩ := H
    refine L_val (v := .bool x7) (y_load Try.underlying4 rfl (ev_tv rfl rfl) hc9) ?_
    refine l_nil ?_
    refine then_norm ?_
    refine hK8 _ _ ?_
    clear hK8
    rcases Bool.eq_false_or_eq_true x7 with hb10 | hb10
    · replace H := H.1 hb10
      have hq11 : Value.bool (x7) = Value.bool true := congrArg Value.bool hb10
      refine cond_t (ev_tv rfl hq11) ?_
      refine c_region ?_
      refine L_val (v := .pointer (some ⟨b5, o6, none⟩)) (y_move (ev_tv rfl rfl)) ?_
      refine L_val (v := .pointer (some ⟨b5, o6, none⟩)) (y_nilCheck (ev_tv rfl rfl)) ?_
      refine L_val (v := .pointer (some ⟨b5, o6 + 4, none⟩)) (Try.fa51_4 (ev_tv rfl rfl)) ?_
      obtain ⟨x8, hc12, H⟩ := H
      refine L_val (v := .int .i64 x8) (y_load Try.underlying3 rfl (ev_tv rfl rfl) hc12) ?_
      obtain ⟨r9, hr13⟩ : ∃ r9 : Int, r9 = IntKind.wrap .i64 (x8 - 1) := ⟨_, rfl⟩
      replace H := H r9 hr13
      refine L_val (v := .int .i64 r9) (y_sub (ev_tv rfl rfl) ev_c hr13) ?_
      refine L_val (v := .pointer (some ⟨b5, o6, none⟩)) (y_nilCheck (ev_tv rfl rfl)) ?_
      refine L_val (v := .pointer (some ⟨b5, o6 + 4, none⟩)) (Try.fa51_4 (ev_tv rfl rfl)) ?_
      obtain ⟨hc14, hf15, H⟩ := H
      obtain ⟨w10, hw16⟩ : ∃ w10 : World, w10 = World.setCell w3 ⟨b5, o6 + 4, none⟩ (.int .i64 r9) := ⟨_, rfl⟩
      replace H := H w10 hw16
      refine L_skip (y_store Try.type3 rfl rfl (ev_tv rfl rfl) (ev_tv rfl rfl) hc14 hf15 hw16) ?_
      refine l_nil ?_
      refine then_norm ?_
      refine hK7 _ _ ?_
      clear hK7
      refine c_seq ?_
      intro K17 hK17
      refine c_region ?_
      refine L_val (v := .bool true) (y_assign ev_c) ?_
      refine l_nil ?_
      refine then_norm ?_
      refine hK17 _ _ ?_
      clear hK17
      refine c_ret ?_
      exact body_1 rfl (ev_tv rfl rfl) H
    · replace H := H.2 hb10
      have hq11 : Value.bool (x7) = Value.bool false := congrArg Value.bool hb10
      refine cond_f (ev_tv rfl hq11) ?_
      refine c_skip ?_
      refine then_norm ?_
      refine hK7 _ _ ?_
      clear hK7
      refine c_seq ?_
      intro K18 hK18
      refine c_region ?_
      refine L_val (v := .bool true) (y_assign ev_c) ?_
      refine l_nil ?_
      refine then_norm ?_
      refine hK18 _ _ ?_
      clear hK18
      refine c_ret ?_
      exact body_1 rfl (ev_tv rfl rfl) H

/-- (parapet/disk.Disk).sector -/
def Vc31 (a_d1 : Option Addr) (a_n2 : Int) (w : World) (R : Ending → World → Prop) : Prop :=
  (∃ (b3 o4 : Nat), a_d1 = some ⟨b3, o4, none⟩ ∧ (∃ x5 : Option Addr, ∃ x5l : Nat, ∃ x5c : Nat, World.cell? w ⟨b3, o4, none⟩ = some (.slice x5 x5l x5c) ∧ (∀ r6 : Int, r6 = IntKind.wrap .i64 (a_n2 * 512) → (∀ r7 : Int, r7 = IntKind.wrap .i64 (a_n2 + 1) → (∀ r8 : Int, r8 = IntKind.wrap .i64 (r7 * 512) → ((0 : Int) ≤ r6 ∧ (r6 : Int) ≤ r8 ∧ r8 ≤ ((x5c : Nat) : Int) ∧ ∀ a9 : Option Addr, a9 = subA x5 1 x5c (r6 : Int).toNat → R (.returned (.slice a9 ((r8 : Int).toNat - (r6 : Int).toNat) (x5c - (r6 : Int).toNat))) w))))))

theorem vc31 {a_d1 : Option Addr} {a_n2 : Int} {w : World} {R : Ending → World → Prop} (H : Vc31 a_d1 a_n2 w R) : Calls Try.prog 31 #[.pointer a_d1, .int .i64 a_n2] w R := by
  unfold Vc31 at H
  refine calls_start [.pointer a_d1, .int .i64 a_n2] Try.func31 rfl Try.ntmps31 rfl ?_
  refine c_seq ?_
  intro K1 hK1
  refine c_region ?_
  refine L_val (v := .slice none 0 0) (y_assign ev_c) ?_
  refine l_nil ?_
  refine then_norm ?_
  refine hK1 _ _ ?_
  clear hK1
  refine c_seq ?_
  intro K2 hK2
  refine c_region ?_
  refine L_val (v := .pointer a_d1) (y_move (ev_tv rfl rfl)) ?_
  obtain ⟨b3, o4, rfl, H⟩ := H
  refine L_val (v := .pointer (some ⟨b3, o4, none⟩)) (y_nilCheck (ev_tv rfl rfl)) ?_
  refine L_val (v := .pointer (some ⟨b3, o4, none⟩)) (Try.fa51_0 (ev_tv rfl rfl)) ?_
  obtain ⟨x5, x5l, x5c, hc3, H⟩ := H
  refine L_val (v := .slice x5 x5l x5c) (y_load Try.underlying33 rfl (ev_tv rfl rfl) hc3) ?_
  refine L_val (v := .int .i64 a_n2) (y_move (ev_tv rfl rfl)) ?_
  obtain ⟨r6, hr4⟩ : ∃ r6 : Int, r6 = IntKind.wrap .i64 (a_n2 * 512) := ⟨_, rfl⟩
  replace H := H r6 hr4
  refine L_val (v := .int .i64 r6) (y_mul (ev_tv rfl rfl) ev_c hr4) ?_
  refine L_val (v := .int .i64 a_n2) (y_move (ev_tv rfl rfl)) ?_
  obtain ⟨r7, hr5⟩ : ∃ r7 : Int, r7 = IntKind.wrap .i64 (a_n2 + 1) := ⟨_, rfl⟩
  replace H := H r7 hr5
  refine L_val (v := .int .i64 r7) (y_add (ev_tv rfl rfl) ev_c hr5) ?_
  obtain ⟨r8, hr6⟩ : ∃ r8 : Int, r8 = IntKind.wrap .i64 (r7 * 512) := ⟨_, rfl⟩
  replace H := H r8 hr6
  refine L_val (v := .int .i64 r8) (y_mul (ev_tv rfl rfl) ev_c hr6) ?_
  obtain ⟨hi8, hi9, hi10, H⟩ := H
  obtain ⟨a9, ha7⟩ : ∃ a9 : Option Addr, a9 = subA x5 1 x5c (r6 : Int).toNat := ⟨_, rfl⟩
  replace H := H a9 ha7
  refine L_val (v := .slice a9 ((r8 : Int).toNat - (r6 : Int).toNat) (x5c - (r6 : Int).toNat)) (y_sliceLH Try.underlying33 Try.type5 rfl (ev_tv rfl rfl) (ev_tv rfl rfl) (ev_tv rfl rfl) hi8 hi9 hi10 ha7) ?_
  refine L_val (v := .slice a9 ((r8 : Int).toNat - (r6 : Int).toNat) (x5c - (r6 : Int).toNat)) (y_assign (ev_tv rfl rfl)) ?_
  refine l_nil ?_
  refine then_norm ?_
  refine hK2 _ _ ?_
  clear hK2
  refine c_ret ?_
  exact body_1 rfl (ev_tv rfl rfl) H

/-- (parapet/disk.Disk).is -/
def Vc33 (a_d1 : Option Addr) (a_n2 : Int) (w : World) (R : Ending → World → Prop) : Prop :=
  ((((0 : Int) ≤ a_n2) → (Calls Try.prog 24 #[.pointer a_d1] w fun e w4 => ∃ x3 : Int, e = .returned (.int .i64 x3) ∧ R (.returned (.bool (decide ((a_n2 : Int) < x3)))) w4)) ∧ ((¬ ((0 : Int) ≤ a_n2)) → R (.returned (.bool false)) w))

theorem vc33 {a_d1 : Option Addr} {a_n2 : Int} {w : World} {R : Ending → World → Prop} (H : Vc33 a_d1 a_n2 w R) : Calls Try.prog 33 #[.pointer a_d1, .int .i64 a_n2] w R := by
  unfold Vc33 at H
  refine calls_start [.pointer a_d1, .int .i64 a_n2] Try.func33 rfl Try.ntmps33 rfl ?_
  refine c_seq ?_
  intro K1 hK1
  refine c_region ?_
  refine L_val (v := .bool false) (y_assign ev_c) ?_
  refine l_nil ?_
  refine then_norm ?_
  refine hK1 _ _ ?_
  clear hK1
  refine c_seq ?_
  intro K2 hK2
  refine c_region ?_
  refine L_val (v := .int .i64 a_n2) (y_move (ev_tv rfl rfl)) ?_
  refine L_val (v := .bool (decide ((0 : Int) ≤ a_n2))) (y_geq (ev_tv rfl rfl) ev_c) ?_
  refine L_val (v := .bool (decide ((0 : Int) ≤ a_n2))) (y_move (ev_tv rfl rfl)) ?_
  rcases (Decidable.em ((0 : Int) ≤ a_n2)) with hb3 | hb3
  · replace H := H.1 hb3
    have hq4 : Value.bool (decide ((0 : Int) ≤ a_n2)) = Value.bool true := congrArg Value.bool (decide_eq_true hb3)
    refine G_val (dj := 7) rfl rfl hq4 (v := .int .i64 a_n2) (y_move (ev_tv rfl rfl)) ?_
    refine G_val (dj := 7) rfl rfl hq4 (v := .pointer a_d1) (y_move (ev_tv rfl rfl)) ?_
    refine G_call (dj := 7) rfl rfl hq4 (y_call Try.call24 (map_ev1 (ev_tv rfl rfl)) ev_f) (Calls.mono H ?_)
    clear H
    rintro _ w4 ⟨x3, rfl, H⟩
    refine ⟨_, rfl, ?_⟩
    refine G_val (dj := 7) rfl rfl hq4 (v := .bool (decide ((a_n2 : Int) < x3))) (y_lss (ev_tv rfl rfl) (ev_tv rfl rfl)) ?_
    refine L_val (v := .bool (decide ((a_n2 : Int) < x3))) (y_pick_t (ev_tv rfl hq4) (ev_tv rfl rfl)) ?_
    refine L_val (v := .bool (decide ((a_n2 : Int) < x3))) (y_assign (ev_tv rfl rfl)) ?_
    refine l_nil ?_
    refine then_norm ?_
    refine hK2 _ _ ?_
    clear hK2
    refine c_ret ?_
    exact body_1 rfl (ev_tv rfl rfl) H
  · replace H := H.2 hb3
    have hq4 : Value.bool (decide ((0 : Int) ≤ a_n2)) = Value.bool false := congrArg Value.bool (decide_eq_false hb3)
    refine G_not (b' := false) (dj := 7) rfl rfl hq4 rfl ?_
    refine G_not (b' := false) (dj := 7) rfl rfl hq4 rfl ?_
    refine G_not (b' := false) (dj := 7) rfl rfl hq4 rfl ?_
    refine G_not (b' := false) (dj := 7) rfl rfl hq4 rfl ?_
    refine L_val (v := .bool false) (y_pick_f (ev_tv rfl hq4) ev_c) ?_
    refine L_val (v := .bool false) (y_assign (ev_tv rfl rfl)) ?_
    refine l_nil ?_
    refine then_norm ?_
    refine hK2 _ _ ?_
    clear hK2
    refine c_ret ?_
    exact body_1 rfl (ev_tv rfl rfl) H

/-- slices.IndexFunc[[]int,int] -/
def Vc34 (a_s1 : Option Addr) (a_s1l : Nat) (a_s1c : Nat) (a_f2 : Value) (w : World) (R : Ending → World → Prop) : Prop :=
  (∃ I4 : Nat → Int → World → Prop, (∃ m, I4 m 0 w) ∧ ∀ (m4 : Nat) (v3 : Int) (w5 : World), I4 m4 v3 w5 → ((((v3 : Int) < ((a_s1l : Nat) : Int)) → (∃ (b6 o7 : Nat), a_s1 = some ⟨b6, o7, none⟩ ∧ ((0 : Int) ≤ v3 ∧ v3 < ((a_s1l : Nat) : Int) ∧ (∃ x8 : Int, World.cell? w5 ⟨b6, o7 + (v3 : Int).toNat, none⟩ = some (.int .i64 x8) ∧ (Invoke Try.prog a_f2 #[.int .i64 x8] w5 fun e w10 => ∃ x9 : Bool, e = .returned (.bool x9) ∧ (((x9 = true) → R (.returned (.int .i64 v3)) w10) ∧ ((x9 = false) → (∀ r12 : Int, r12 = IntKind.wrap .i64 (v3 + 1) → (∃ m13, m13 < m4 ∧ I4 m13 r12 w10))))))))) ∧ ((¬ ((v3 : Int) < ((a_s1l : Nat) : Int))) → R (.returned (.int .i64 (-1))) w5)))

theorem vc34 {a_s1 : Option Addr} {a_s1l : Nat} {a_s1c : Nat} {a_f2 : Value} {w : World} {R : Ending → World → Prop} (H : Vc34 a_s1 a_s1l a_s1c a_f2 w R) : Calls Try.prog 34 #[.slice a_s1 a_s1l a_s1c, a_f2] w R := by
  unfold Vc34 at H
  refine calls_start [.slice a_s1 a_s1l a_s1c, a_f2] Try.func34 rfl Try.ntmps34 rfl ?_
  refine c_seq ?_
  intro K1 hK1
  refine c_region ?_
  refine L_val (v := .int .i64 0) (y_assign ev_c) ?_
  refine l_nil ?_
  refine then_norm ?_
  refine hK1 _ _ ?_
  clear hK1
  refine c_seq ?_
  intro K2 hK2
  refine c_seq ?_
  intro K3 hK3
  refine c_region ?_
  refine L_val (v := .slice a_s1 a_s1l a_s1c) (y_move (ev_tv rfl rfl)) ?_
  refine L_val (v := .int .i64 ((a_s1l : Nat) : Int)) (y_len Try.underlying43 rfl (map_ev1 (ev_tv rfl rfl))) ?_
  refine L_val (v := .int .i64 0) (y_move ev_c) ?_
  refine l_nil ?_
  refine then_norm ?_
  refine hK3 _ _ ?_
  clear hK3
  refine c_block ?_
  obtain ⟨I4, ⟨m8, HI9⟩, H⟩ := H
  refine loop_fr ([(4, 5), (8, 18)]) (fun m ff ww => ∃ (v3 : Int), ff 8 = (.int .i64 v3 : Value) ∧ I4 m v3 ww) m8 ⟨0, rfl, HI9⟩ ?_
  rintro m4 f5 w5 hag6 ⟨v3, hs10, HI7⟩
  replace H := H m4 v3 w5 HI7
  refine c_seq ?_
  intro K11 hK11
  refine c_region ?_
  refine L_val (v := .bool (decide ((v3 : Int) < ((a_s1l : Nat) : Int)))) (y_lss (ev_tv rfl hs10) (ev_tv rfl ((hag6 7 rfl).trans rfl))) ?_
  refine l_nil ?_
  refine then_norm ?_
  refine hK11 _ _ ?_
  clear hK11
  refine c_seq ?_
  intro K12 hK12
  rcases (Decidable.em ((v3 : Int) < ((a_s1l : Nat) : Int))) with hb13 | hb13
  · replace H := H.1 hb13
    have hq14 : Value.bool (decide ((v3 : Int) < ((a_s1l : Nat) : Int))) = Value.bool true := congrArg Value.bool (decide_eq_true hb13)
    refine cond_t (ev_tv rfl hq14) ?_
    refine c_skip ?_
    refine then_norm ?_
    refine hK12 _ _ ?_
    clear hK12
    refine c_seq ?_
    intro K15 hK15
    refine c_block ?_
    refine c_seq ?_
    intro K16 hK16
    refine c_region ?_
    refine L_val (v := .int .i64 v3) (y_move (ev_tv rfl hs10)) ?_
    refine L_val (v := .int .i64 v3) (y_assign (ev_tv rfl rfl)) ?_
    refine l_nil ?_
    refine then_norm ?_
    refine hK16 _ _ ?_
    clear hK16
    refine c_seq ?_
    intro K17 hK17
    refine c_region ?_
    refine L_val (v := a_f2) (y_move (ev_tv rfl ((hag6 1 rfl).trans rfl))) ?_
    refine L_val (v := .slice a_s1 a_s1l a_s1c) (y_move (ev_tv rfl ((hag6 0 rfl).trans rfl))) ?_
    refine L_val (v := .int .i64 v3) (y_move (ev_tv rfl rfl)) ?_
    obtain ⟨b6, o7, rfl, H⟩ := H
    obtain ⟨hi18, hi19, H⟩ := H
    refine L_val (v := .pointer (some ⟨b6, o7 + (v3 : Int).toNat, none⟩)) (y_ix1 Try.underlying43 Try.type3 rfl (ev_tv rfl rfl) (ev_tv rfl rfl) hi18 hi19) ?_
    obtain ⟨x8, hc20, H⟩ := H
    refine L_val (v := .int .i64 x8) (y_load Try.underlying3 rfl (ev_tv rfl rfl) hc20) ?_
    obtain ⟨khk26, firsthk26, caphk26, hi27, hk26, H⟩ := H
    refine L_call (y_callv hk26 (map_ev1 (ev_tv rfl rfl)) ((ev_tv rfl rfl).trans hi27)) (Calls.mono H ?_)
    clear H
    rintro _ w10 ⟨x9, rfl, H⟩
    refine ⟨_, rfl, ?_⟩
    refine l_nil ?_
    refine then_norm ?_
    refine hK17 _ _ ?_
    clear hK17
    rcases Bool.eq_false_or_eq_true x9 with hb21 | hb21
    · replace H := H.1 hb21
      have hq22 : Value.bool (x9) = Value.bool true := congrArg Value.bool hb21
      refine cond_t (ev_tv rfl hq22) ?_
      refine c_seq ?_
      intro K23 hK23
      refine c_region ?_
      refine L_val (v := .int .i64 v3) (y_move (ev_tv rfl rfl)) ?_
      refine L_val (v := .int .i64 v3) (y_assign (ev_tv rfl rfl)) ?_
      refine l_nil ?_
      refine then_norm ?_
      refine hK23 _ _ ?_
      clear hK23
      refine c_ret ?_
      refine block_ret ?_
      refine then_ret ?_
      refine then_ret ?_
      refine block_ret ?_
      refine then_ret ?_
      exact body_1 rfl (ev_tv rfl rfl) H
    · replace H := H.2 hb21
      have hq22 : Value.bool (x9) = Value.bool false := congrArg Value.bool hb21
      refine cond_f (ev_tv rfl hq22) ?_
      refine c_skip ?_
      refine block_norm ?_
      refine then_norm ?_
      refine hK15 _ _ ?_
      clear hK15
      refine c_region ?_
      obtain ⟨r12, hr24⟩ : ∃ r12 : Int, r12 = IntKind.wrap .i64 (v3 + 1) := ⟨_, rfl⟩
      replace H := H r12 hr24
      refine L_val (v := .int .i64 r12) (y_add (ev_tv rfl hs10) ev_c hr24) ?_
      refine L_val (v := .int .i64 r12) (y_move (ev_tv rfl rfl)) ?_
      refine l_nil ?_
      refine then_norm ?_
      obtain ⟨m13, hm25, H⟩ := H
      exact ⟨_, rfl, (by repeat (first | exact agree_refl | exact hag6 | refine agree_upd rfl ?_ | refine agree_via hag6 rfl ?_)), m13, hm25, _, rfl, H⟩
  · replace H := H.2 hb13
    have hq14 : Value.bool (decide ((v3 : Int) < ((a_s1l : Nat) : Int))) = Value.bool false := congrArg Value.bool (decide_eq_false hb13)
    refine cond_f (ev_tv rfl hq14) ?_
    refine c_exit ?_
    refine then_exit ?_
    refine then_exit ?_
    refine block_hit ?_
    refine then_norm ?_
    refine hK2 _ _ ?_
    clear hK2
    refine c_seq ?_
    intro K28 hK28
    refine c_region ?_
    refine L_val (v := .int .i64 (-1)) (y_assign ev_c) ?_
    refine l_nil ?_
    refine then_norm ?_
    refine hK28 _ _ ?_
    clear hK28
    refine c_ret ?_
    exact body_1 rfl (ev_tv rfl rfl) H

/-- (parapet/buf.Cache).makeRoom$1 -/
def Vc35 (a_n1 : Int) (fv2 : Option Addr) (w : World) (R : Ending → World → Prop) : Prop :=
  (∃ (b3 o4 : Nat), fv2 = some ⟨b3, o4, none⟩ ∧ (∃ x5 : Option Addr, World.cell? w ⟨b3, o4, none⟩ = some (.pointer x5) ∧ (∃ (b6 o7 : Nat), x5 = some ⟨b6, o7, none⟩ ∧ (∃ x8 : Option Nat, World.cell? w ⟨b6, o7 + 2, none⟩ = some (.map x8) ∧ (∃ x9 : Option Addr, (Instr.lookup 52 (.map x8) (.int .i64 a_n1) false).run Try.prog w = .ok (.pointer x9) w ∧ (∃ (b10 o11 : Nat), x9 = some ⟨b10, o11, none⟩ ∧ (∃ x12 : Bool, World.cell? w ⟨b10, o11 + 1, none⟩ = some (.bool x12) ∧ (((x12 = true) → R (.returned (.bool false)) w) ∧ ((x12 = false) → R (.returned (.bool true)) w)))))))))

theorem vc35 {a_n1 : Int} {fv2 : Option Addr} {w : World} {R : Ending → World → Prop} (H : Vc35 a_n1 fv2 w R) : Calls Try.prog 35 #[.int .i64 a_n1, .pointer fv2] w R := by
  unfold Vc35 at H
  refine calls_start [.int .i64 a_n1, .pointer fv2] Try.func35 rfl Try.ntmps35 rfl ?_
  refine c_seq ?_
  intro K1 hK1
  refine c_region ?_
  refine L_val (v := .bool false) (y_assign ev_c) ?_
  refine l_nil ?_
  refine then_norm ?_
  refine hK1 _ _ ?_
  clear hK1
  refine c_seq ?_
  intro K2 hK2
  refine c_region ?_
  obtain ⟨b3, o4, rfl, H⟩ := H
  obtain ⟨x5, hc3, H⟩ := H
  refine L_val (v := .pointer x5) (y_load Try.underlying28 rfl (ev_tv rfl rfl) hc3) ?_
  obtain ⟨b6, o7, rfl, H⟩ := H
  refine L_val (v := .pointer (some ⟨b6, o7, none⟩)) (y_nilCheck (ev_tv rfl rfl)) ?_
  refine L_val (v := .pointer (some ⟨b6, o7 + 2, none⟩)) (Try.fa56_2 (ev_tv rfl rfl)) ?_
  obtain ⟨x8, hc4, H⟩ := H
  refine L_val (v := .map x8) (y_load Try.underlying52 rfl (ev_tv rfl rfl) hc4) ?_
  refine L_val (v := .int .i64 a_n1) (y_move (ev_tv rfl rfl)) ?_
  obtain ⟨x9, hc5, H⟩ := H
  refine L_val (v := .pointer x9) (y_lookup (ev_tv rfl rfl) (ev_tv rfl rfl) hc5) ?_
  obtain ⟨b10, o11, rfl, H⟩ := H
  refine L_val (v := .pointer (some ⟨b10, o11, none⟩)) (y_nilCheck (ev_tv rfl rfl)) ?_
  refine L_val (v := .pointer (some ⟨b10, o11 + 1, none⟩)) (Try.fa62_1 (ev_tv rfl rfl)) ?_
  obtain ⟨x12, hc6, H⟩ := H
  refine L_val (v := .bool x12) (y_load Try.underlying4 rfl (ev_tv rfl rfl) hc6) ?_
  rcases Bool.eq_false_or_eq_true x12 with hb7 | hb7
  · replace H := H.1 hb7
    have hq8 : Value.bool (x12) = Value.bool true := congrArg Value.bool hb7
    refine L_val (v := .bool false) (y_not_t (ev_tv rfl hq8)) ?_
    refine L_val (v := .bool false) (y_assign (ev_tv rfl rfl)) ?_
    refine l_nil ?_
    refine then_norm ?_
    refine hK2 _ _ ?_
    clear hK2
    refine c_ret ?_
    exact body_1 rfl (ev_tv rfl rfl) H
  · replace H := H.2 hb7
    have hq8 : Value.bool (x12) = Value.bool false := congrArg Value.bool hb7
    refine L_val (v := .bool true) (y_not_f (ev_tv rfl hq8)) ?_
    refine L_val (v := .bool true) (y_assign (ev_tv rfl rfl)) ?_
    refine l_nil ?_
    refine then_norm ?_
    refine hK2 _ _ ?_
    clear hK2
    refine c_ret ?_
    exact body_1 rfl (ev_tv rfl rfl) H

/-- slices.Delete[[]int,int] -/
def Vc36 (a_s1 : Option Addr) (a_s1l : Nat) (a_s1c : Nat) (a_i2 : Int) (a_j3 : Int) (w : World) (R : Ending → World → Prop) : Prop :=
  ((0 : Int) ≤ a_i2 ∧ (a_i2 : Int) ≤ a_j3 ∧ (a_j3 : Int) ≤ ((a_s1l : Nat) : Int) ∧ ((a_s1l : Nat) : Int) ≤ ((a_s1c : Nat) : Int) ∧ ∀ a4 : Option Addr, a4 = subA a_s1 1 (((a_s1l : Nat) : Int) : Int).toNat (a_i2 : Int).toNat → ((((a_i2 : Int) = a_j3) → R (.returned (.slice a_s1 a_s1l a_s1c)) w) ∧ ((¬ ((a_i2 : Int) = a_j3)) → ((0 : Int) ≤ a_i2 ∧ a_i2 ≤ ((a_s1c : Nat) : Int) ∧ ∀ a5 : Option Addr, a5 = a_s1 → ((0 : Int) ≤ a_j3 ∧ a_j3 ≤ ((a_s1l : Nat) : Int) ∧ ∀ a6 : Option Addr, a6 = subA a_s1 1 a_s1c (a_j3 : Int).toNat → (∃ x8 : Option Addr, ∃ x8l : Nat, ∃ x8c : Nat, ∃ w7 : World, (Builtin.append_ #[43, 43] 43 #[.slice a5 ((a_i2 : Int).toNat) a_s1c, .slice a6 (a_s1l - (a_j3 : Int).toNat) (a_s1c - (a_j3 : Int).toNat)]).run Try.prog (w.drew) = .ok (.slice x8 x8l x8c) w7 ∧ ((0 : Int) ≤ ((x8l : Nat) : Int) ∧ (((x8l : Nat) : Int) : Int) ≤ ((a_s1l : Nat) : Int) ∧ ((a_s1l : Nat) : Int) ≤ ((x8c : Nat) : Int) ∧ ∀ a9 : Option Addr, a9 = subA x8 1 x8c (((x8l : Nat) : Int) : Int).toNat → (∃ w10 : World, (Builtin.clear_ #[43] 0 #[.slice a9 ((((a_s1l : Nat) : Int) : Int).toNat - (((x8l : Nat) : Int) : Int).toNat) (x8c - (((x8l : Nat) : Int) : Int).toNat)]).run Try.prog w7 = .ok (.tuple #[]) w10 ∧ R (.returned (.slice x8 x8l x8c)) w10))))))))

theorem vc36 {a_s1 : Option Addr} {a_s1l : Nat} {a_s1c : Nat} {a_i2 : Int} {a_j3 : Int} {w : World} {R : Ending → World → Prop} (H : Vc36 a_s1 a_s1l a_s1c a_i2 a_j3 w R) : Calls Try.prog 36 #[.slice a_s1 a_s1l a_s1c, .int .i64 a_i2, .int .i64 a_j3] w R := by
  unfold Vc36 at H
  refine calls_start [.slice a_s1 a_s1l a_s1c, .int .i64 a_i2, .int .i64 a_j3] Try.func36 rfl Try.ntmps36 rfl ?_
  refine c_seq ?_
  intro K1 hK1
  refine c_region ?_
  refine L_val (v := .slice none 0 0) (y_assign ev_c) ?_
  refine l_nil ?_
  refine then_norm ?_
  refine hK1 _ _ ?_
  clear hK1
  refine c_seq ?_
  intro K2 hK2
  refine c_region ?_
  refine L_val (v := .slice a_s1 a_s1l a_s1c) (y_move (ev_tv rfl rfl)) ?_
  refine L_val (v := .int .i64 a_i2) (y_move (ev_tv rfl rfl)) ?_
  refine L_val (v := .int .i64 a_j3) (y_move (ev_tv rfl rfl)) ?_
  refine L_val (v := .slice a_s1 a_s1l a_s1c) (y_move (ev_tv rfl rfl)) ?_
  refine L_val (v := .int .i64 ((a_s1l : Nat) : Int)) (y_len Try.underlying43 rfl (map_ev1 (ev_tv rfl rfl))) ?_
  obtain ⟨hi4, hi5, hi6, hi7, H⟩ := H
  obtain ⟨a4, ha3⟩ : ∃ a4 : Option Addr, a4 = subA a_s1 1 (((a_s1l : Nat) : Int) : Int).toNat (a_i2 : Int).toNat := ⟨_, rfl⟩
  replace H := H a4 ha3
  refine L_val (v := .slice a4 ((a_j3 : Int).toNat - (a_i2 : Int).toNat) ((((a_s1l : Nat) : Int) : Int).toNat - (a_i2 : Int).toNat)) (y_sliceLHM Try.underlying43 Try.type3 rfl (ev_tv rfl rfl) (ev_tv rfl rfl) (ev_tv rfl rfl) (ev_tv rfl rfl) hi4 hi5 hi6 hi7 ha3) ?_
  refine l_nil ?_
  refine then_norm ?_
  refine hK2 _ _ ?_
  clear hK2
  refine c_seq ?_
  intro K8 hK8
  refine c_seq ?_
  intro K9 hK9
  refine c_region ?_
  refine L_val (v := .int .i64 a_i2) (y_move (ev_tv rfl rfl)) ?_
  refine L_val (v := .int .i64 a_j3) (y_move (ev_tv rfl rfl)) ?_
  refine L_val (v := .bool (decide ((a_i2 : Int) = a_j3))) (y_ieq (ev_tv rfl rfl) (ev_tv rfl rfl)) ?_
  refine l_nil ?_
  refine then_norm ?_
  refine hK9 _ _ ?_
  clear hK9
  rcases (Decidable.em ((a_i2 : Int) = a_j3)) with hb10 | hb10
  · replace H := H.1 hb10
    have hq11 : Value.bool (decide ((a_i2 : Int) = a_j3)) = Value.bool true := congrArg Value.bool (decide_eq_true hb10)
    refine cond_t (ev_tv rfl hq11) ?_
    refine c_seq ?_
    intro K12 hK12
    refine c_region ?_
    refine L_val (v := .slice a_s1 a_s1l a_s1c) (y_move (ev_tv rfl rfl)) ?_
    refine L_val (v := .slice a_s1 a_s1l a_s1c) (y_assign (ev_tv rfl rfl)) ?_
    refine l_nil ?_
    refine then_norm ?_
    refine hK12 _ _ ?_
    clear hK12
    refine c_ret ?_
    refine then_ret ?_
    exact body_1 rfl (ev_tv rfl rfl) H
  · replace H := H.2 hb10
    have hq11 : Value.bool (decide ((a_i2 : Int) = a_j3)) = Value.bool false := congrArg Value.bool (decide_eq_false hb10)
    refine cond_f (ev_tv rfl hq11) ?_
    refine c_skip ?_
    refine then_norm ?_
    refine hK8 _ _ ?_
    clear hK8
    refine c_seq ?_
    intro K13 hK13
    refine c_region ?_
    refine L_val (v := .slice a_s1 a_s1l a_s1c) (y_move (ev_tv rfl rfl)) ?_
    refine L_val (v := .int .i64 ((a_s1l : Nat) : Int)) (y_len Try.underlying43 rfl (map_ev1 (ev_tv rfl rfl))) ?_
    refine L_val (v := .int .i64 ((a_s1l : Nat) : Int)) (y_assign (ev_tv rfl rfl)) ?_
    refine l_nil ?_
    refine then_norm ?_
    refine hK13 _ _ ?_
    clear hK13
    refine c_seq ?_
    intro K14 hK14
    refine D_start Try.mixed rfl [6] ?_
    refine start_keep fun hS => ?_
    refine D_pure (i := 0) (v := .slice a_s1 a_s1l a_s1c) rfl (by kernel_rfl) (W_none rfl) (fun _ => y_move (ev_tv rfl rfl)) hS ?_
    intro hS
    refine D_pure (i := 1) (v := .int .i64 a_i2) rfl (by kernel_rfl) (W_none rfl) (fun _ => y_move (ev_tv rfl rfl)) hS ?_
    intro hS
    obtain ⟨hi16, hi17, H⟩ := H
    obtain ⟨a5, ha15⟩ : ∃ a5 : Option Addr, a5 = a_s1 := ⟨_, rfl⟩
    replace H := H a5 ha15
    refine D_pure (i := 2) (v := .slice a5 ((a_i2 : Int).toNat) a_s1c) rfl (by kernel_rfl) (W_none rfl) (fun _ => y_sliceH Try.underlying43 Try.type3 (ev_tv rfl rfl) (ev_tv rfl rfl) hi16 hi17 ha15) hS ?_
    intro hS
    refine D_pure (i := 3) (v := .slice a_s1 a_s1l a_s1c) rfl (by kernel_rfl) (W_none rfl) (fun _ => y_move (ev_tv rfl rfl)) hS ?_
    intro hS
    refine D_pure (i := 4) (v := .int .i64 a_j3) rfl (by kernel_rfl) (W_none rfl) (fun _ => y_move (ev_tv rfl rfl)) hS ?_
    intro hS
    obtain ⟨hi19, hi20, H⟩ := H
    obtain ⟨a6, ha18⟩ : ∃ a6 : Option Addr, a6 = subA a_s1 1 a_s1c (a_j3 : Int).toNat := ⟨_, rfl⟩
    replace H := H a6 ha18
    refine D_pure (i := 5) (v := .slice a6 (a_s1l - (a_j3 : Int).toNat) (a_s1c - (a_j3 : Int).toNat)) rfl (by kernel_rfl) (W_none rfl) (fun _ => y_sliceL Try.underlying43 Try.type3 rfl (ev_tv rfl rfl) (ev_tv rfl rfl) hi19 hi20 ha18) hS ?_
    intro hS
    refine D_only (i := 6) (by kernel_rfl) rfl ?_
    obtain ⟨x8, x8l, x8c, w7, hc21, H⟩ := H
    refine O_val (i := 6) (v := .slice x8 x8l x8c) rfl (W_none rfl) (y_bi_append (map_ev2 (ev_tv rfl rfl) (ev_tv rfl rfl)) hc21) ?_
    refine and_keep SS_nil fun hS => ?_
    refine D_pure (i := 7) (v := .slice x8 x8l x8c) rfl (by kernel_rfl) (W_none rfl) (fun _ => y_assign (ev_tv rfl rfl)) hS ?_
    intro hS
    refine D_done (by kernel_rfl) ?_
    refine then_norm ?_
    refine hK14 _ _ ?_
    clear hK14
    refine c_seq ?_
    intro K22 hK22
    refine c_region ?_
    refine L_val (v := .slice x8 x8l x8c) (y_move (ev_tv rfl rfl)) ?_
    refine L_val (v := .slice x8 x8l x8c) (y_move (ev_tv rfl rfl)) ?_
    refine L_val (v := .int .i64 ((x8l : Nat) : Int)) (y_len Try.underlying43 rfl (map_ev1 (ev_tv rfl rfl))) ?_
    refine L_val (v := .int .i64 ((a_s1l : Nat) : Int)) (y_move (ev_tv rfl rfl)) ?_
    obtain ⟨hi24, hi25, hi26, H⟩ := H
    obtain ⟨a9, ha23⟩ : ∃ a9 : Option Addr, a9 = subA x8 1 x8c (((x8l : Nat) : Int) : Int).toNat := ⟨_, rfl⟩
    replace H := H a9 ha23
    refine L_val (v := .slice a9 ((((a_s1l : Nat) : Int) : Int).toNat - (((x8l : Nat) : Int) : Int).toNat) (x8c - (((x8l : Nat) : Int) : Int).toNat)) (y_sliceLH Try.underlying43 Try.type3 rfl (ev_tv rfl rfl) (ev_tv rfl rfl) (ev_tv rfl rfl) hi24 hi25 hi26 ha23) ?_
    obtain ⟨w10, hc27, H⟩ := H
    refine L_valn (v := .tuple #[]) (y_bi_clear (map_ev1 (ev_tv rfl rfl)) hc27) ?_
    refine l_nil ?_
    refine then_norm ?_
    refine hK22 _ _ ?_
    clear hK22
    refine c_seq ?_
    intro K28 hK28
    refine c_region ?_
    refine L_val (v := .slice x8 x8l x8c) (y_move (ev_tv rfl rfl)) ?_
    refine L_val (v := .slice x8 x8l x8c) (y_assign (ev_tv rfl rfl)) ?_
    refine l_nil ?_
    refine then_norm ?_
    refine hK28 _ _ ?_
    clear hK28
    refine c_ret ?_
    exact body_1 rfl (ev_tv rfl rfl) H

/-- slices.DeleteFunc[[]int,int] -/
def Vc37 (a_s1 : Option Addr) (a_s1l : Nat) (a_s1c : Nat) (a_del2 : Value) (w : World) (R : Ending → World → Prop) : Prop :=
  (Calls Try.prog 34 #[.slice a_s1 a_s1l a_s1c, a_del2] w fun e w4 => ∃ x3 : Int, e = .returned (.int .i64 x3) ∧ ((((x3 : Int) = (-1)) → R (.returned (.slice a_s1 a_s1l a_s1c)) w4) ∧ ((¬ ((x3 : Int) = (-1))) → (∃ J8 : Int → World → Prop, (∀ (v6 : Int) (w7 : World), J8 v6 w7 → ((0 : Int) ≤ v6 ∧ v6 ≤ ((a_s1l : Nat) : Int) ∧ ∀ a8 : Option Addr, a8 = subA a_s1 1 a_s1c (v6 : Int).toNat → (∃ w9 : World, (Builtin.clear_ #[43] 0 #[.slice a8 (a_s1l - (v6 : Int).toNat) (a_s1c - (v6 : Int).toNat)]).run Try.prog w7 = .ok (.tuple #[]) w9 ∧ ((0 : Int) ≤ v6 ∧ v6 ≤ ((a_s1c : Nat) : Int) ∧ ∀ a10 : Option Addr, a10 = a_s1 → R (.returned (.slice a10 ((v6 : Int).toNat) a_s1c)) w9)))) ∧ (∀ r11 : Int, r11 = IntKind.wrap .i64 (x3 + 1) → (∃ I26 : Nat → Int → Int → World → Prop, (∃ m, I26 m x3 r11 w4) ∧ ∀ (m14 : Nat) (v12 : Int) (v13 : Int) (w15 : World), I26 m14 v12 v13 w15 → ((((v13 : Int) < ((a_s1l : Nat) : Int)) → (∃ (b16 o17 : Nat), a_s1 = some ⟨b16, o17, none⟩ ∧ ((0 : Int) ≤ v13 ∧ v13 < ((a_s1l : Nat) : Int) ∧ (∃ x18 : Int, World.cell? w15 ⟨b16, o17 + (v13 : Int).toNat, none⟩ = some (.int .i64 x18) ∧ (Invoke Try.prog a_del2 #[.int .i64 x18] w15 fun e w20 => ∃ x19 : Bool, e = .returned (.bool x19) ∧ (((x19 = true) → (∀ r22 : Int, r22 = IntKind.wrap .i64 (v13 + 1) → (∃ m23, m23 < m14 ∧ I26 m23 v12 r22 w20))) ∧ ((x19 = false) → ((0 : Int) ≤ v12 ∧ v12 < ((a_s1l : Nat) : Int) ∧ ((World.cell? w20 ⟨b16, o17 + (v12 : Int).toNat, none⟩).isSome = true ∧ World.frozen? w20 ⟨b16, o17 + (v12 : Int).toNat, none⟩ = false ∧ ∀ w24 : World, w24 = World.setCell w20 ⟨b16, o17 + (v12 : Int).toNat, none⟩ (.int .i64 x18) → (∀ r25 : Int, r25 = IntKind.wrap .i64 (v12 + 1) → (∀ r26 : Int, r26 = IntKind.wrap .i64 (v13 + 1) → (∃ m27, m27 < m14 ∧ I26 m27 r25 r26 w24)))))))))))) ∧ ((¬ ((v13 : Int) < ((a_s1l : Nat) : Int))) → J8 v12 w15))))))))

theorem vc37 {a_s1 : Option Addr} {a_s1l : Nat} {a_s1c : Nat} {a_del2 : Value} {w : World} {R : Ending → World → Prop} (H : Vc37 a_s1 a_s1l a_s1c a_del2 w R) : Calls Try.prog 37 #[.slice a_s1 a_s1l a_s1c, a_del2] w R := by
  unfold Vc37 at H
  refine calls_start [.slice a_s1 a_s1l a_s1c, a_del2] Try.func37 rfl Try.ntmps37 rfl ?_
  refine c_seq ?_
  intro K1 hK1
  refine c_region ?_
  refine L_val (v := .slice none 0 0) (y_assign ev_c) ?_
  refine l_nil ?_
  refine then_norm ?_
  refine hK1 _ _ ?_
  clear hK1
  refine c_seq ?_
  intro K2 hK2
  refine c_region ?_
  refine L_val (v := .slice a_s1 a_s1l a_s1c) (y_move (ev_tv rfl rfl)) ?_
  refine L_val (v := a_del2) (y_move (ev_tv rfl rfl)) ?_
  refine L_call (y_call Try.call34 (map_ev2 (ev_tv rfl rfl) (ev_tv rfl rfl)) ev_f) (Calls.mono H ?_)
  clear H
  rintro _ w4 ⟨x3, rfl, H⟩
  refine ⟨_, rfl, ?_⟩
  refine L_val (v := .int .i64 x3) (y_assign (ev_tv rfl rfl)) ?_
  refine l_nil ?_
  refine then_norm ?_
  refine hK2 _ _ ?_
  clear hK2
  refine c_seq ?_
  intro K3 hK3
  refine c_seq ?_
  intro K4 hK4
  refine c_region ?_
  refine L_val (v := .int .i64 x3) (y_move (ev_tv rfl rfl)) ?_
  refine L_val (v := .bool (decide ((x3 : Int) = (-1)))) (y_ieq (ev_tv rfl rfl) ev_c) ?_
  refine l_nil ?_
  refine then_norm ?_
  refine hK4 _ _ ?_
  clear hK4
  rcases (Decidable.em ((x3 : Int) = (-1))) with hb5 | hb5
  · replace H := H.1 hb5
    have hq6 : Value.bool (decide ((x3 : Int) = (-1))) = Value.bool true := congrArg Value.bool (decide_eq_true hb5)
    refine cond_t (ev_tv rfl hq6) ?_
    refine c_seq ?_
    intro K7 hK7
    refine c_region ?_
    refine L_val (v := .slice a_s1 a_s1l a_s1c) (y_move (ev_tv rfl rfl)) ?_
    refine L_val (v := .slice a_s1 a_s1l a_s1c) (y_assign (ev_tv rfl rfl)) ?_
    refine l_nil ?_
    refine then_norm ?_
    refine hK7 _ _ ?_
    clear hK7
    refine c_ret ?_
    refine then_ret ?_
    exact body_1 rfl (ev_tv rfl rfl) H
  · replace H := H.2 hb5
    have hq6 : Value.bool (decide ((x3 : Int) = (-1))) = Value.bool false := congrArg Value.bool (decide_eq_false hb5)
    refine cond_f (ev_tv rfl hq6) ?_
    refine c_skip ?_
    refine then_norm ?_
    refine hK3 _ _ ?_
    clear hK3
    obtain ⟨J8, hJ9, H⟩ := H
    refine c_seqJ [(5, 7), (14, 35)] (fun ff ww => ∃ (v6 : Int), ff 5 = (.int .i64 v6 : Value) ∧ J8 v6 ww) ?_ ?_
    · clear hJ9
      intro K13 hK13
      refine c_seq ?_
      intro K24 hK24
      refine c_region ?_
      refine L_val (v := .int .i64 x3) (y_move (ev_tv rfl rfl)) ?_
      obtain ⟨r11, hr25⟩ : ∃ r11 : Int, r11 = IntKind.wrap .i64 (x3 + 1) := ⟨_, rfl⟩
      replace H := H r11 hr25
      refine L_val (v := .int .i64 r11) (y_add (ev_tv rfl rfl) ev_c hr25) ?_
      refine L_val (v := .int .i64 r11) (y_assign (ev_tv rfl rfl)) ?_
      refine l_nil ?_
      refine then_norm ?_
      refine hK24 _ _ ?_
      clear hK24
      refine c_block ?_
      obtain ⟨I26, ⟨m30, HI31⟩, H⟩ := H
      refine loop_fr ([(5, 7), (16, 35)]) (fun m ff ww => ∃ (v12 : Int) (v13 : Int), ff 5 = (.int .i64 v12 : Value) ∧ ff 6 = (.int .i64 v13 : Value) ∧ I26 m v12 v13 ww) m30 ⟨x3, r11, rfl, rfl, HI31⟩ ?_
      rintro m14 f27 w15 hag28 ⟨v12, v13, hs32, hs33, HI29⟩
      replace H := H m14 v12 v13 w15 HI29
      refine c_seq ?_
      intro K34 hK34
      refine c_seq ?_
      intro K35 hK35
      refine c_region ?_
      refine L_val (v := .int .i64 v13) (y_move (ev_tv rfl hs33)) ?_
      refine L_val (v := .slice a_s1 a_s1l a_s1c) (y_move (ev_tv rfl ((hag28 0 rfl).trans rfl))) ?_
      refine L_val (v := .int .i64 ((a_s1l : Nat) : Int)) (y_len Try.underlying43 rfl (map_ev1 (ev_tv rfl rfl))) ?_
      refine L_val (v := .bool (decide ((v13 : Int) < ((a_s1l : Nat) : Int)))) (y_lss (ev_tv rfl rfl) (ev_tv rfl rfl)) ?_
      refine l_nil ?_
      refine then_norm ?_
      refine hK35 _ _ ?_
      clear hK35
      rcases (Decidable.em ((v13 : Int) < ((a_s1l : Nat) : Int))) with hb36 | hb36
      · replace H := H.1 hb36
        have hq37 : Value.bool (decide ((v13 : Int) < ((a_s1l : Nat) : Int))) = Value.bool true := congrArg Value.bool (decide_eq_true hb36)
        refine cond_t (ev_tv rfl hq37) ?_
        refine c_skip ?_
        refine then_norm ?_
        refine hK34 _ _ ?_
        clear hK34
        refine c_seq ?_
        intro K38 hK38
        refine c_block ?_
        refine c_seq ?_
        intro K39 hK39
        refine c_region ?_
        refine L_val (v := .slice a_s1 a_s1l a_s1c) (y_move (ev_tv rfl ((hag28 0 rfl).trans rfl))) ?_
        refine L_val (v := .int .i64 v13) (y_move (ev_tv rfl hs33)) ?_
        obtain ⟨b16, o17, rfl, H⟩ := H
        obtain ⟨hi40, hi41, H⟩ := H
        refine L_val (v := .pointer (some ⟨b16, o17 + (v13 : Int).toNat, none⟩)) (y_ix1 Try.underlying43 Try.type3 rfl (ev_tv rfl rfl) (ev_tv rfl rfl) hi40 hi41) ?_
        obtain ⟨x18, hc42, H⟩ := H
        refine L_val (v := .int .i64 x18) (y_load Try.underlying3 rfl (ev_tv rfl rfl) hc42) ?_
        refine L_val (v := .int .i64 x18) (y_assign (ev_tv rfl rfl)) ?_
        refine l_nil ?_
        refine then_norm ?_
        refine hK39 _ _ ?_
        clear hK39
        refine c_seq ?_
        intro K43 hK43
        refine c_region ?_
        refine L_val (v := a_del2) (y_move (ev_tv rfl ((hag28 1 rfl).trans rfl))) ?_
        refine L_val (v := .int .i64 x18) (y_move (ev_tv rfl rfl)) ?_
        obtain ⟨khk57, firsthk57, caphk57, hi58, hk57, H⟩ := H
        refine L_call (y_callv hk57 (map_ev1 (ev_tv rfl rfl)) ((ev_tv rfl rfl).trans hi58)) (Calls.mono H ?_)
        clear H
        rintro _ w20 ⟨x19, rfl, H⟩
        refine ⟨_, rfl, ?_⟩
        rcases Bool.eq_false_or_eq_true x19 with hb44 | hb44
        · replace H := H.1 hb44
          have hq45 : Value.bool (x19) = Value.bool true := congrArg Value.bool hb44
          refine L_val (v := .bool false) (y_not_t (ev_tv rfl hq45)) ?_
          refine l_nil ?_
          refine then_norm ?_
          refine hK43 _ _ ?_
          clear hK43
          refine cond_f (ev_tv rfl rfl) ?_
          refine c_skip ?_
          refine block_norm ?_
          refine then_norm ?_
          refine hK38 _ _ ?_
          clear hK38
          refine c_region ?_
          refine L_val (v := .int .i64 v13) (y_move (ev_tv rfl hs33)) ?_
          obtain ⟨r22, hr46⟩ : ∃ r22 : Int, r22 = IntKind.wrap .i64 (v13 + 1) := ⟨_, rfl⟩
          replace H := H r22 hr46
          refine L_val (v := .int .i64 r22) (y_add (ev_tv rfl rfl) ev_c hr46) ?_
          refine L_val (v := .int .i64 r22) (y_assign (ev_tv rfl rfl)) ?_
          refine l_nil ?_
          refine then_norm ?_
          obtain ⟨m23, hm47, H⟩ := H
          exact ⟨_, rfl, (by repeat (first | exact agree_refl | exact hag28 | refine agree_upd rfl ?_ | refine agree_via hag28 rfl ?_)), m23, hm47, _, _, hs32, rfl, H⟩
        · replace H := H.2 hb44
          have hq45 : Value.bool (x19) = Value.bool false := congrArg Value.bool hb44
          refine L_val (v := .bool true) (y_not_f (ev_tv rfl hq45)) ?_
          refine l_nil ?_
          refine then_norm ?_
          refine hK43 _ _ ?_
          clear hK43
          refine cond_t (ev_tv rfl rfl) ?_
          refine c_seq ?_
          intro K48 hK48
          refine c_region ?_
          refine L_val (v := .slice (some ⟨b16, o17, none⟩) a_s1l a_s1c) (y_move (ev_tv rfl ((hag28 0 rfl).trans rfl))) ?_
          refine L_val (v := .int .i64 v12) (y_move (ev_tv rfl hs32)) ?_
          refine L_val (v := .int .i64 x18) (y_move (ev_tv rfl rfl)) ?_
          obtain ⟨hi49, hi50, H⟩ := H
          refine L_val (v := .pointer (some ⟨b16, o17 + (v12 : Int).toNat, none⟩)) (y_ix1 Try.underlying43 Try.type3 rfl (ev_tv rfl rfl) (ev_tv rfl rfl) hi49 hi50) ?_
          obtain ⟨hc51, hf52, H⟩ := H
          obtain ⟨w24, hw53⟩ : ∃ w24 : World, w24 = World.setCell w20 ⟨b16, o17 + (v12 : Int).toNat, none⟩ (.int .i64 x18) := ⟨_, rfl⟩
          replace H := H w24 hw53
          refine L_skip (y_store Try.type3 rfl rfl (ev_tv rfl rfl) (ev_tv rfl rfl) hc51 hf52 hw53) ?_
          refine l_nil ?_
          refine then_norm ?_
          refine hK48 _ _ ?_
          clear hK48
          refine c_region ?_
          refine L_val (v := .int .i64 v12) (y_move (ev_tv rfl hs32)) ?_
          obtain ⟨r25, hr54⟩ : ∃ r25 : Int, r25 = IntKind.wrap .i64 (v12 + 1) := ⟨_, rfl⟩
          replace H := H r25 hr54
          refine L_val (v := .int .i64 r25) (y_add (ev_tv rfl rfl) ev_c hr54) ?_
          refine L_val (v := .int .i64 r25) (y_assign (ev_tv rfl rfl)) ?_
          refine l_nil ?_
          refine block_norm ?_
          refine then_norm ?_
          refine hK38 _ _ ?_
          clear hK38
          refine c_region ?_
          refine L_val (v := .int .i64 v13) (y_move (ev_tv rfl hs33)) ?_
          obtain ⟨r26, hr55⟩ : ∃ r26 : Int, r26 = IntKind.wrap .i64 (v13 + 1) := ⟨_, rfl⟩
          replace H := H r26 hr55
          refine L_val (v := .int .i64 r26) (y_add (ev_tv rfl rfl) ev_c hr55) ?_
          refine L_val (v := .int .i64 r26) (y_assign (ev_tv rfl rfl)) ?_
          refine l_nil ?_
          refine then_norm ?_
          obtain ⟨m27, hm56, H⟩ := H
          exact ⟨_, rfl, (by repeat (first | exact agree_refl | exact hag28 | refine agree_upd rfl ?_ | refine agree_via hag28 rfl ?_)), m27, hm56, _, _, rfl, rfl, H⟩
      · replace H := H.2 hb36
        have hq37 : Value.bool (decide ((v13 : Int) < ((a_s1l : Nat) : Int))) = Value.bool false := congrArg Value.bool (decide_eq_false hb36)
        refine cond_f (ev_tv rfl hq37) ?_
        refine c_exit ?_
        refine then_exit ?_
        refine then_exit ?_
        refine block_hit ?_
        refine then_norm ?_
        exact hK13 _ _ (by repeat (first | exact agree_refl | exact hag28 | refine agree_upd rfl ?_ | refine agree_via hag28 rfl ?_)) ⟨_, hs32, H⟩
    · clear H
      rintro f10 w7 hag11 ⟨v6, hs14, HJ12⟩
      have H := hJ9 v6 w7 HJ12
      clear hJ9
      refine c_seq ?_
      intro K15 hK15
      refine c_region ?_
      refine L_val (v := .slice a_s1 a_s1l a_s1c) (y_move (ev_tv rfl ((hag11 0 rfl).trans rfl))) ?_
      refine L_val (v := .int .i64 v6) (y_move (ev_tv rfl hs14)) ?_
      obtain ⟨hi17, hi18, H⟩ := H
      obtain ⟨a8, ha16⟩ : ∃ a8 : Option Addr, a8 = subA a_s1 1 a_s1c (v6 : Int).toNat := ⟨_, rfl⟩
      replace H := H a8 ha16
      refine L_val (v := .slice a8 (a_s1l - (v6 : Int).toNat) (a_s1c - (v6 : Int).toNat)) (y_sliceL Try.underlying43 Try.type3 rfl (ev_tv rfl rfl) (ev_tv rfl rfl) hi17 hi18 ha16) ?_
      obtain ⟨w9, hc19, H⟩ := H
      refine L_valn (v := .tuple #[]) (y_bi_clear (map_ev1 (ev_tv rfl rfl)) hc19) ?_
      refine l_nil ?_
      refine then_norm ?_
      refine hK15 _ _ ?_
      clear hK15
      refine c_seq ?_
      intro K20 hK20
      refine c_region ?_
      refine L_val (v := .slice a_s1 a_s1l a_s1c) (y_move (ev_tv rfl ((hag11 0 rfl).trans rfl))) ?_
      refine L_val (v := .int .i64 v6) (y_move (ev_tv rfl hs14)) ?_
      obtain ⟨hi22, hi23, H⟩ := H
      obtain ⟨a10, ha21⟩ : ∃ a10 : Option Addr, a10 = a_s1 := ⟨_, rfl⟩
      replace H := H a10 ha21
      refine L_val (v := .slice a10 ((v6 : Int).toNat) a_s1c) (y_sliceH Try.underlying43 Try.type3 (ev_tv rfl rfl) (ev_tv rfl rfl) hi22 hi23 ha21) ?_
      refine L_val (v := .slice a10 ((v6 : Int).toNat) a_s1c) (y_assign (ev_tv rfl rfl)) ?_
      refine l_nil ?_
      refine then_norm ?_
      refine hK20 _ _ ?_
      clear hK20
      refine c_ret ?_
      exact body_1 rfl (ev_tv rfl rfl) H

/-- (parapet/buf.Cache).drop$1 -/
def Vc38 (a_k1 : Int) (fv2 : Option Addr) (w : World) (R : Ending → World → Prop) : Prop :=
  (∃ (b3 o4 : Nat), fv2 = some ⟨b3, o4, none⟩ ∧ (∃ x5 : Int, World.cell? w ⟨b3, o4, none⟩ = some (.int .i64 x5) ∧ R (.returned (.bool (decide ((a_k1 : Int) = x5)))) w))

theorem vc38 {a_k1 : Int} {fv2 : Option Addr} {w : World} {R : Ending → World → Prop} (H : Vc38 a_k1 fv2 w R) : Calls Try.prog 38 #[.int .i64 a_k1, .pointer fv2] w R := by
  unfold Vc38 at H
  refine calls_start [.int .i64 a_k1, .pointer fv2] Try.func38 rfl Try.ntmps38 rfl ?_
  refine c_seq ?_
  intro K1 hK1
  refine c_region ?_
  refine L_val (v := .bool false) (y_assign ev_c) ?_
  refine l_nil ?_
  refine then_norm ?_
  refine hK1 _ _ ?_
  clear hK1
  refine c_seq ?_
  intro K2 hK2
  refine c_region ?_
  refine L_val (v := .int .i64 a_k1) (y_move (ev_tv rfl rfl)) ?_
  obtain ⟨b3, o4, rfl, H⟩ := H
  obtain ⟨x5, hc3, H⟩ := H
  refine L_val (v := .int .i64 x5) (y_load Try.underlying3 rfl (ev_tv rfl rfl) hc3) ?_
  refine L_val (v := .bool (decide ((a_k1 : Int) = x5))) (y_ieq (ev_tv rfl rfl) (ev_tv rfl rfl)) ?_
  refine L_val (v := .bool (decide ((a_k1 : Int) = x5))) (y_assign (ev_tv rfl rfl)) ?_
  refine l_nil ?_
  refine then_norm ?_
  refine hK2 _ _ ?_
  clear hK2
  refine c_ret ?_
  exact body_1 rfl (ev_tv rfl rfl) H

/-- (parapet/disk.Disk).Off -/
def Vc41 (a_d1 : Option Addr) (w : World) (R : Ending → World → Prop) : Prop :=
  (((a_d1 ≠ none) → (∃ (b2 o3 : Nat), a_d1 = some ⟨b2, o3, none⟩ ∧ (∃ x4 : Bool, World.cell? w ⟨b2, o3 + 3, none⟩ = some (.bool x4) ∧ (((x4 = true) → (∃ x5 : Int, World.cell? w ⟨b2, o3 + 4, none⟩ = some (.int .i64 x5) ∧ R (.returned (.bool (decide ((x5 : Int) = 0)))) w)) ∧ ((x4 = false) → R (.returned (.bool false)) w))))) ∧ ((a_d1 = none) → R (.returned (.bool false)) w))

theorem vc41 {a_d1 : Option Addr} {w : World} {R : Ending → World → Prop} (H : Vc41 a_d1 w R) : Calls Try.prog 41 #[.pointer a_d1] w R := by
  unfold Vc41 at H
  refine calls_start [.pointer a_d1] Try.func41 rfl Try.ntmps41 rfl ?_
  refine c_seq ?_
  intro K1 hK1
  refine c_region ?_
  refine L_val (v := .bool false) (y_assign ev_c) ?_
  refine l_nil ?_
  refine then_norm ?_
  refine hK1 _ _ ?_
  clear hK1
  refine c_seq ?_
  intro K2 hK2
  refine c_region ?_
  refine L_val (v := .pointer a_d1) (y_move (ev_tv rfl rfl)) ?_
  refine L_val (v := .bool (!a_d1.isNone)) (y_pne Try.underlying23 (ev_tv rfl rfl) ev_c) ?_
  refine L_val (v := .bool (!a_d1.isNone)) (y_move (ev_tv rfl rfl)) ?_
  rcases (Classical.em (a_d1 ≠ none)) with hb3 | hb3
  · replace H := H.1 hb3
    have hq4 : Value.bool (!a_d1.isNone) = Value.bool true := congrArg Value.bool (nisn_t hb3)
    refine G_val (dj := 5) rfl rfl hq4 (v := .pointer a_d1) (y_move (ev_tv rfl rfl)) ?_
    obtain ⟨b2, o3, rfl, H⟩ := H
    refine G_val (dj := 5) rfl rfl hq4 (v := .pointer (some ⟨b2, o3, none⟩)) (y_nilCheck (ev_tv rfl rfl)) ?_
    refine G_val (dj := 5) rfl rfl hq4 (v := .pointer (some ⟨b2, o3 + 3, none⟩)) (Try.fa51_3 (ev_tv rfl rfl)) ?_
    obtain ⟨x4, hc5, H⟩ := H
    refine G_val (dj := 5) rfl rfl hq4 (v := .bool x4) (y_load Try.underlying4 rfl (ev_tv rfl rfl) hc5) ?_
    refine L_val (v := .bool x4) (y_pick_t (ev_tv rfl hq4) (ev_tv rfl rfl)) ?_
    refine L_val (v := .bool x4) (y_move (ev_tv rfl rfl)) ?_
    rcases Bool.eq_false_or_eq_true x4 with hb6 | hb6
    · replace H := H.1 hb6
      have hq7 : Value.bool (x4) = Value.bool true := congrArg Value.bool hb6
      refine G_val (dj := 11) rfl rfl hq7 (v := .pointer (some ⟨b2, o3, none⟩)) (y_move (ev_tv rfl rfl)) ?_
      refine G_val (dj := 11) rfl rfl hq7 (v := .pointer (some ⟨b2, o3, none⟩)) (y_nilCheck (ev_tv rfl rfl)) ?_
      refine G_val (dj := 11) rfl rfl hq7 (v := .pointer (some ⟨b2, o3 + 4, none⟩)) (Try.fa51_4 (ev_tv rfl rfl)) ?_
      obtain ⟨x5, hc8, H⟩ := H
      refine G_val (dj := 11) rfl rfl hq7 (v := .int .i64 x5) (y_load Try.underlying3 rfl (ev_tv rfl rfl) hc8) ?_
      refine G_val (dj := 11) rfl rfl hq7 (v := .bool (decide ((x5 : Int) = 0))) (y_ieq (ev_tv rfl rfl) ev_c) ?_
      refine L_val (v := .bool (decide ((x5 : Int) = 0))) (y_pick_t (ev_tv rfl hq7) (ev_tv rfl rfl)) ?_
      refine L_val (v := .bool (decide ((x5 : Int) = 0))) (y_assign (ev_tv rfl rfl)) ?_
      refine l_nil ?_
      refine then_norm ?_
      refine hK2 _ _ ?_
      clear hK2
      refine c_ret ?_
      exact body_1 rfl (ev_tv rfl rfl) H
    · replace H := H.2 hb6
      have hq7 : Value.bool (x4) = Value.bool false := congrArg Value.bool hb6
      refine G_not (b' := false) (dj := 11) rfl rfl hq7 rfl ?_
      refine G_not (b' := false) (dj := 11) rfl rfl hq7 rfl ?_
      refine G_not (b' := false) (dj := 11) rfl rfl hq7 rfl ?_
      refine G_not (b' := false) (dj := 11) rfl rfl hq7 rfl ?_
      refine G_not (b' := false) (dj := 11) rfl rfl hq7 rfl ?_
      refine L_val (v := .bool false) (y_pick_f (ev_tv rfl hq7) ev_c) ?_
      refine L_val (v := .bool false) (y_assign (ev_tv rfl rfl)) ?_
      refine l_nil ?_
      refine then_norm ?_
      refine hK2 _ _ ?_
      clear hK2
      refine c_ret ?_
      exact body_1 rfl (ev_tv rfl rfl) H
  · replace hb3 : a_d1 = none := Classical.not_not.1 hb3
    replace H := H.2 hb3
    have hq4 : Value.bool (!a_d1.isNone) = Value.bool false := congrArg Value.bool (nisn_f hb3)
    refine G_not (b' := false) (dj := 5) rfl rfl hq4 rfl ?_
    refine G_not (b' := false) (dj := 5) rfl rfl hq4 rfl ?_
    refine G_not (b' := false) (dj := 5) rfl rfl hq4 rfl ?_
    refine G_not (b' := false) (dj := 5) rfl rfl hq4 rfl ?_
    refine L_val (v := .bool false) (y_pick_f (ev_tv rfl hq4) ev_c) ?_
    refine L_val (v := .bool false) (y_move (ev_tv rfl rfl)) ?_
    refine G_not (b' := false) (dj := 11) rfl rfl rfl rfl ?_
    refine G_not (b' := false) (dj := 11) rfl rfl rfl rfl ?_
    refine G_not (b' := false) (dj := 11) rfl rfl rfl rfl ?_
    refine G_not (b' := false) (dj := 11) rfl rfl rfl rfl ?_
    refine G_not (b' := false) (dj := 11) rfl rfl rfl rfl ?_
    refine L_val (v := .bool false) (y_pick_f (ev_tv rfl rfl) ev_c) ?_
    refine L_val (v := .bool false) (y_assign (ev_tv rfl rfl)) ?_
    refine l_nil ?_
    refine then_norm ?_
    refine hK2 _ _ ?_
    clear hK2
    refine c_ret ?_
    exact body_1 rfl (ev_tv rfl rfl) H

end Go.Proofs.Ytgkcckghmlccnaa
