/- For each Go function: what must be shown of it, and that this is enough. Printed by a program over the seat's translation. -/
import Derived.Test.YtdhdbdpemejpjaaVcGenA
namespace Go.Proofs.Ytdhdbdpemejpjaa
open Go Go.Vc
set_option maxRecDepth 100000
set_option linter.unusedVariables false
set_option maxHeartbeats 2000000

/-- (parapet/tlb.Tlb).Harts -/
def Vc33 (a_t1 : Option Addr) (w : World) (R : Ending → World → Prop) : Prop :=
  (((a_t1 = none) → R (.returned (.int .i64 0)) w) ∧ ((a_t1 ≠ none) → (∃ (b2 o3 : Nat), a_t1 = some ⟨b2, o3, none⟩ ∧ (∃ x4 : Option Addr, ∃ x4l : Nat, ∃ x4c : Nat, World.cell? w ⟨b2, o3 + 1, none⟩ = some (.slice x4 x4l x4c) ∧ R (.returned (.int .i64 ((x4l : Nat) : Int))) w))))

theorem vc33 {a_t1 : Option Addr} {w : World} {R : Ending → World → Prop} (H : Vc33 a_t1 w R) : Calls Try.prog 33 #[.pointer a_t1] w R := by
  unfold Vc33 at H
  refine calls_start [.pointer a_t1] Try.func33 rfl Try.ntmps33 rfl ?_
  refine c_seq ?_
  intro K1 hK1
  refine c_region ?_
  refine L_val (v := .int .i64 0) (y_assign ev_c) ?_
  refine l_nil ?_
  refine then_norm ?_
  refine hK1 _ _ ?_
  clear hK1
  refine c_seq ?_
  intro K2 hK2
  refine c_seq ?_
  intro K3 hK3
  refine c_region ?_
  refine L_val (v := .pointer a_t1) (y_move (ev_tv rfl rfl)) ?_
  refine L_val (v := .bool (a_t1.isNone)) (y_peq Try.underlying24 (ev_tv rfl rfl) ev_c) ?_
  refine l_nil ?_
  refine then_norm ?_
  refine hK3 _ _ ?_
  clear hK3
  rcases (Classical.em (a_t1 = none)) with hb4 | hb4
  · replace H := H.1 hb4
    have hq5 : Value.bool (a_t1.isNone) = Value.bool true := congrArg Value.bool (isn_t hb4)
    refine cond_t (ev_tv rfl hq5) ?_
    refine c_seq ?_
    intro K6 hK6
    refine c_region ?_
    refine L_val (v := .int .i64 0) (y_assign ev_c) ?_
    refine l_nil ?_
    refine then_norm ?_
    refine hK6 _ _ ?_
    clear hK6
    refine c_ret ?_
    refine then_ret ?_
    exact body_1 rfl (ev_tv rfl rfl) H
  · replace H := H.2 hb4
    have hq5 : Value.bool (a_t1.isNone) = Value.bool false := congrArg Value.bool (isn_f hb4)
    refine cond_f (ev_tv rfl hq5) ?_
    refine c_skip ?_
    refine then_norm ?_
    refine hK2 _ _ ?_
    clear hK2
    refine c_seq ?_
    intro K7 hK7
    refine c_region ?_
    refine L_val (v := .pointer a_t1) (y_move (ev_tv rfl rfl)) ?_
    obtain ⟨b2, o3, rfl, H⟩ := H
    refine L_val (v := .pointer (some ⟨b2, o3, none⟩)) (y_nilCheck (ev_tv rfl rfl)) ?_
    refine L_val (v := .pointer (some ⟨b2, o3 + 1, none⟩)) (Try.fa56_1 (ev_tv rfl rfl)) ?_
    obtain ⟨x4, x4l, x4c, hc8, H⟩ := H
    refine L_val (v := .slice x4 x4l x4c) (y_load Try.underlying53 rfl (ev_tv rfl rfl) hc8) ?_
    refine L_val (v := .int .i64 ((x4l : Nat) : Int)) (y_len Try.underlying53 rfl (map_ev1 (ev_tv rfl rfl))) ?_
    refine L_val (v := .int .i64 ((x4l : Nat) : Int)) (y_assign (ev_tv rfl rfl)) ?_
    refine l_nil ?_
    refine then_norm ?_
    refine hK7 _ _ ?_
    clear hK7
    refine c_ret ?_
    exact body_1 rfl (ev_tv rfl rfl) H

/-- slices.DeleteFunc[[]parapet/api.Key,parapet/api.Key] -/
def Vc37 (a_s1 : Option Addr) (a_s1l : Nat) (a_s1c : Nat) (a_del2 : Value) (w : World) (R : Ending → World → Prop) : Prop :=
  (Calls Try.prog 54 #[.slice a_s1 a_s1l a_s1c, a_del2] w fun e w4 => ∃ x3 : Int, e = .returned (.int .i64 x3) ∧ ((((x3 : Int) = (-1)) → R (.returned (.slice a_s1 a_s1l a_s1c)) w4) ∧ ((¬ ((x3 : Int) = (-1))) → (∃ J8 : Int → World → Prop, (∀ (v6 : Int) (w7 : World), J8 v6 w7 → ((0 : Int) ≤ v6 ∧ v6 ≤ ((a_s1l : Nat) : Int) ∧ ∀ a8 : Option Addr, a8 = subA a_s1 2 a_s1c (v6 : Int).toNat → (∃ w9 : World, (Builtin.clear_ #[40] 0 #[.slice a8 (a_s1l - (v6 : Int).toNat) (a_s1c - (v6 : Int).toNat)]).run Try.prog w7 = .ok (.tuple #[]) w9 ∧ ((0 : Int) ≤ v6 ∧ v6 ≤ ((a_s1c : Nat) : Int) ∧ ∀ a10 : Option Addr, a10 = a_s1 → R (.returned (.slice a10 ((v6 : Int).toNat) a_s1c)) w9)))) ∧ (∀ r11 : Int, r11 = IntKind.wrap .i64 (x3 + 1) → (∃ I26 : Nat → Int → Int → World → Prop, (∃ m, I26 m x3 r11 w4) ∧ ∀ (m14 : Nat) (v12 : Int) (v13 : Int) (w15 : World), I26 m14 v12 v13 w15 → ((((v13 : Int) < ((a_s1l : Nat) : Int)) → (∃ (b16 o17 : Nat), a_s1 = some ⟨b16, o17, none⟩ ∧ ((0 : Int) ≤ v13 ∧ v13 < ((a_s1l : Nat) : Int) ∧ (∃ x18 : Int, ∃ x19 : Int, CellsAt w15 ⟨b16, o17 + (v13 : Int).toNat * 2, none⟩ [.int .i64 x18, .int .i64 x19] ∧ (∀ (b20 : Nat) (w21 : World), b20 = World.heapSize w15 → w21 = World.alloc w15 (.cells #[.int .i64 0, .int .i64 0] 31) → ((∀ j, j < 2 → (World.cell? w21 (Addr.add ⟨b20, 0, none⟩ j)).isSome = true ∧ World.frozen? w21 (Addr.add ⟨b20, 0, none⟩ j) = false) ∧ ∀ w22 : World, w22 = putCells w21 ⟨b20, 0, none⟩ [.int .i64 x18, .int .i64 x19] 0 → (∃ x23 : Int, ∃ x24 : Int, CellsAt w22 ⟨b20, 0, none⟩ [.int .i64 x23, .int .i64 x24] ∧ (Invoke Try.prog a_del2 #[.agg #[.int .i64 x23, .int .i64 x24]] w22 fun e w26 => ∃ x25 : Bool, e = .returned (.bool x25) ∧ (((x25 = true) → (∀ r28 : Int, r28 = IntKind.wrap .i64 (v13 + 1) → (∃ m29, m29 < m14 ∧ I26 m29 v12 r28 w26))) ∧ ((x25 = false) → (∃ x30 : Int, ∃ x31 : Int, CellsAt w26 ⟨b20, 0, none⟩ [.int .i64 x30, .int .i64 x31] ∧ ((0 : Int) ≤ v12 ∧ v12 < ((a_s1l : Nat) : Int) ∧ ((∀ j, j < 2 → (World.cell? w26 (Addr.add ⟨b16, o17 + (v12 : Int).toNat * 2, none⟩ j)).isSome = true ∧ World.frozen? w26 (Addr.add ⟨b16, o17 + (v12 : Int).toNat * 2, none⟩ j) = false) ∧ ∀ w32 : World, w32 = putCells w26 ⟨b16, o17 + (v12 : Int).toNat * 2, none⟩ [.int .i64 x30, .int .i64 x31] 0 → (∀ r33 : Int, r33 = IntKind.wrap .i64 (v12 + 1) → (∀ r34 : Int, r34 = IntKind.wrap .i64 (v13 + 1) → (∃ m35, m35 < m14 ∧ I26 m35 r33 r34 w32)))))))))))))))) ∧ ((¬ ((v13 : Int) < ((a_s1l : Nat) : Int))) → J8 v12 w15))))))))

theorem vc37 {a_s1 : Option Addr} {a_s1l : Nat} {a_s1c : Nat} {a_del2 : Value} {w : World} {R : Ending → World → Prop} (H : Vc37 a_s1 a_s1l a_s1c a_del2 w R) : Calls Try.prog 37 #[.slice a_s1 a_s1l a_s1c, a_del2] w R := by
  unfold Vc37 at H
  refine calls_start [.slice a_s1 a_s1l a_s1c, a_del2] Try.func37 rfl Try.ntmps37 rfl ?_
  refine c_seq ?_
  intro K1 hK1
  refine c_region ?_
  refine L_val (v := .slice none 0 0) (y_assign ev_c) ?_
  refine l_nil ?_
  refine then_norm ?_
  refine hK1 _ _ ?_
  clear hK1
  refine c_seq ?_
  intro K2 hK2
  refine c_region ?_
  refine L_val (v := .slice a_s1 a_s1l a_s1c) (y_move (ev_tv rfl rfl)) ?_
  refine L_val (v := a_del2) (y_move (ev_tv rfl rfl)) ?_
  refine L_call (y_call Try.call54 (map_ev2 (ev_tv rfl rfl) (ev_tv rfl rfl)) ev_f) (Calls.mono H ?_)
  clear H
  rintro _ w4 ⟨x3, rfl, H⟩
  refine ⟨_, rfl, ?_⟩
  refine L_val (v := .int .i64 x3) (y_assign (ev_tv rfl rfl)) ?_
  refine l_nil ?_
  refine then_norm ?_
  refine hK2 _ _ ?_
  clear hK2
  refine c_seq ?_
  intro K3 hK3
  refine c_seq ?_
  intro K4 hK4
  refine c_region ?_
  refine L_val (v := .int .i64 x3) (y_move (ev_tv rfl rfl)) ?_
  refine L_val (v := .bool (decide ((x3 : Int) = (-1)))) (y_ieq (ev_tv rfl rfl) ev_c) ?_
  refine l_nil ?_
  refine then_norm ?_
  refine hK4 _ _ ?_
  clear hK4
  rcases (Decidable.em ((x3 : Int) = (-1))) with hb5 | hb5
  · replace H := H.1 hb5
    have hq6 : Value.bool (decide ((x3 : Int) = (-1))) = Value.bool true := congrArg Value.bool (decide_eq_true hb5)
    refine cond_t (ev_tv rfl hq6) ?_
    refine c_seq ?_
    intro K7 hK7
    refine c_region ?_
    refine L_val (v := .slice a_s1 a_s1l a_s1c) (y_move (ev_tv rfl rfl)) ?_
    refine L_val (v := .slice a_s1 a_s1l a_s1c) (y_assign (ev_tv rfl rfl)) ?_
    refine l_nil ?_
    refine then_norm ?_
    refine hK7 _ _ ?_
    clear hK7
    refine c_ret ?_
    refine then_ret ?_
    exact body_1 rfl (ev_tv rfl rfl) H
  · replace H := H.2 hb5
    have hq6 : Value.bool (decide ((x3 : Int) = (-1))) = Value.bool false := congrArg Value.bool (decide_eq_false hb5)
    refine cond_f (ev_tv rfl hq6) ?_
    refine c_skip ?_
    refine then_norm ?_
    refine hK3 _ _ ?_
    clear hK3
    obtain ⟨J8, hJ9, H⟩ := H
    refine c_seqJ [(5, 7), (14, 35)] (fun ff ww => ∃ (v6 : Int), ff 5 = (.int .i64 v6 : Value) ∧ J8 v6 ww) ?_ ?_
    · clear hJ9
      intro K13 hK13
      refine c_seq ?_
      intro K24 hK24
      refine c_region ?_
      refine L_val (v := .int .i64 x3) (y_move (ev_tv rfl rfl)) ?_
      obtain ⟨r11, hr25⟩ : ∃ r11 : Int, r11 = IntKind.wrap .i64 (x3 + 1) := ⟨_, rfl⟩
      replace H := H r11 hr25
      refine L_val (v := .int .i64 r11) (y_add (ev_tv rfl rfl) ev_c hr25) ?_
      refine L_val (v := .int .i64 r11) (y_assign (ev_tv rfl rfl)) ?_
      refine l_nil ?_
      refine then_norm ?_
      refine hK24 _ _ ?_
      clear hK24
      refine c_block ?_
      obtain ⟨I26, ⟨m30, HI31⟩, H⟩ := H
      refine loop_fr ([(5, 7), (16, 35)]) (fun m ff ww => ∃ (v12 : Int) (v13 : Int), ff 5 = (.int .i64 v12 : Value) ∧ ff 6 = (.int .i64 v13 : Value) ∧ I26 m v12 v13 ww) m30 ⟨x3, r11, rfl, rfl, HI31⟩ ?_
      rintro m14 f27 w15 hag28 ⟨v12, v13, hs32, hs33, HI29⟩
      replace H := H m14 v12 v13 w15 HI29
      refine c_seq ?_
      intro K34 hK34
      refine c_seq ?_
      intro K35 hK35
      refine c_region ?_
      refine L_val (v := .int .i64 v13) (y_move (ev_tv rfl hs33)) ?_
      refine L_val (v := .slice a_s1 a_s1l a_s1c) (y_move (ev_tv rfl ((hag28 0 rfl).trans rfl))) ?_
      refine L_val (v := .int .i64 ((a_s1l : Nat) : Int)) (y_len Try.underlying40 rfl (map_ev1 (ev_tv rfl rfl))) ?_
      refine L_val (v := .bool (decide ((v13 : Int) < ((a_s1l : Nat) : Int)))) (y_lss (ev_tv rfl rfl) (ev_tv rfl rfl)) ?_
      refine l_nil ?_
      refine then_norm ?_
      refine hK35 _ _ ?_
      clear hK35
      rcases (Decidable.em ((v13 : Int) < ((a_s1l : Nat) : Int))) with hb36 | hb36
      · replace H := H.1 hb36
        have hq37 : Value.bool (decide ((v13 : Int) < ((a_s1l : Nat) : Int))) = Value.bool true := congrArg Value.bool (decide_eq_true hb36)
        refine cond_t (ev_tv rfl hq37) ?_
        refine c_skip ?_
        refine then_norm ?_
        refine hK34 _ _ ?_
        clear hK34
        refine c_seq ?_
        intro K38 hK38
        refine c_block ?_
        refine c_seq ?_
        intro K39 hK39
        refine c_region ?_
        refine L_val (v := .slice a_s1 a_s1l a_s1c) (y_move (ev_tv rfl ((hag28 0 rfl).trans rfl))) ?_
        refine L_val (v := .int .i64 v13) (y_move (ev_tv rfl hs33)) ?_
        obtain ⟨b16, o17, rfl, H⟩ := H
        obtain ⟨hi40, hi41, H⟩ := H
        refine L_val (v := .pointer (some ⟨b16, o17 + (v13 : Int).toNat * 2, none⟩)) (y_ix Try.underlying40 Try.type31 rfl (ev_tv rfl rfl) (ev_tv rfl rfl) hi40 hi41) ?_
        obtain ⟨x18, x19, hc42, H⟩ := H
        refine L_val (v := .agg #[.int .i64 x18, .int .i64 x19]) (y_loadAgg Try.underlying31 rfl Try.type31 rfl (ev_tv rfl rfl) hc42) ?_
        obtain ⟨b20, hb43⟩ : ∃ b20 : Nat, b20 = World.heapSize w15 := ⟨_, rfl⟩
        obtain ⟨w21, hw44⟩ : ∃ w21 : World, w21 = World.alloc w15 (.cells #[.int .i64 0, .int .i64 0] 31) := ⟨_, rfl⟩
        replace H := H b20 w21 hb43 hw44
        refine L_val (v := .pointer (some ⟨b20, 0, none⟩)) (y_alloc Try.type31 rfl rfl hb43 hw44) ?_
        obtain ⟨hc45, H⟩ := H
        obtain ⟨w22, hw47⟩ : ∃ w22 : World, w22 = putCells w21 ⟨b20, 0, none⟩ [.int .i64 x18, .int .i64 x19] 0 := ⟨_, rfl⟩
        replace H := H w22 hw47
        refine L_skip (y_storeAgg Try.type31 rfl (by intro v hv; simp only [List.mem_cons, List.not_mem_nil, or_false] at hv; rcases hv with rfl | rfl <;> rfl) (ev_tv rfl rfl) (ev_tv rfl rfl) hc45 hw47) ?_
        refine l_nil ?_
        refine then_norm ?_
        refine hK39 _ _ ?_
        clear hK39
        refine c_seq ?_
        intro K48 hK48
        refine c_region ?_
        refine L_val (v := a_del2) (y_move (ev_tv rfl ((hag28 1 rfl).trans rfl))) ?_
        obtain ⟨x23, x24, hc49, H⟩ := H
        refine L_val (v := .agg #[.int .i64 x23, .int .i64 x24]) (y_loadAgg Try.underlying31 rfl Try.type31 rfl (ev_tv rfl rfl) hc49) ?_
        obtain ⟨khk64, firsthk64, caphk64, hi65, hk64, H⟩ := H
        refine L_call (y_callv hk64 (map_ev1 (ev_tv rfl rfl)) ((ev_tv rfl rfl).trans hi65)) (Calls.mono H ?_)
        clear H
        rintro _ w26 ⟨x25, rfl, H⟩
        refine ⟨_, rfl, ?_⟩
        rcases Bool.eq_false_or_eq_true x25 with hb50 | hb50
        · replace H := H.1 hb50
          have hq51 : Value.bool (x25) = Value.bool true := congrArg Value.bool hb50
          refine L_val (v := .bool false) (y_not_t (ev_tv rfl hq51)) ?_
          refine l_nil ?_
          refine then_norm ?_
          refine hK48 _ _ ?_
          clear hK48
          refine cond_f (ev_tv rfl rfl) ?_
          refine c_skip ?_
          refine block_norm ?_
          refine then_norm ?_
          refine hK38 _ _ ?_
          clear hK38
          refine c_region ?_
          refine L_val (v := .int .i64 v13) (y_move (ev_tv rfl hs33)) ?_
          obtain ⟨r28, hr52⟩ : ∃ r28 : Int, r28 = IntKind.wrap .i64 (v13 + 1) := ⟨_, rfl⟩
          replace H := H r28 hr52
          refine L_val (v := .int .i64 r28) (y_add (ev_tv rfl rfl) ev_c hr52) ?_
          refine L_val (v := .int .i64 r28) (y_assign (ev_tv rfl rfl)) ?_
          refine l_nil ?_
          refine then_norm ?_
          obtain ⟨m29, hm53, H⟩ := H
          exact ⟨_, rfl, (by repeat (first | exact agree_refl | exact hag28 | refine agree_upd rfl ?_ | refine agree_via hag28 rfl ?_)), m29, hm53, _, _, hs32, rfl, H⟩
        · replace H := H.2 hb50
          have hq51 : Value.bool (x25) = Value.bool false := congrArg Value.bool hb50
          refine L_val (v := .bool true) (y_not_f (ev_tv rfl hq51)) ?_
          refine l_nil ?_
          refine then_norm ?_
          refine hK48 _ _ ?_
          clear hK48
          refine cond_t (ev_tv rfl rfl) ?_
          refine c_seq ?_
          intro K54 hK54
          refine c_region ?_
          refine L_val (v := .slice (some ⟨b16, o17, none⟩) a_s1l a_s1c) (y_move (ev_tv rfl ((hag28 0 rfl).trans rfl))) ?_
          refine L_val (v := .int .i64 v12) (y_move (ev_tv rfl hs32)) ?_
          obtain ⟨x30, x31, hc55, H⟩ := H
          refine L_val (v := .agg #[.int .i64 x30, .int .i64 x31]) (y_loadAgg Try.underlying31 rfl Try.type31 rfl (ev_tv rfl rfl) hc55) ?_
          obtain ⟨hi56, hi57, H⟩ := H
          refine L_val (v := .pointer (some ⟨b16, o17 + (v12 : Int).toNat * 2, none⟩)) (y_ix Try.underlying40 Try.type31 rfl (ev_tv rfl rfl) (ev_tv rfl rfl) hi56 hi57) ?_
          obtain ⟨hc58, H⟩ := H
          obtain ⟨w32, hw60⟩ : ∃ w32 : World, w32 = putCells w26 ⟨b16, o17 + (v12 : Int).toNat * 2, none⟩ [.int .i64 x30, .int .i64 x31] 0 := ⟨_, rfl⟩
          replace H := H w32 hw60
          refine L_skip (y_storeAgg Try.type31 rfl (by intro v hv; simp only [List.mem_cons, List.not_mem_nil, or_false] at hv; rcases hv with rfl | rfl <;> rfl) (ev_tv rfl rfl) (ev_tv rfl rfl) hc58 hw60) ?_
          refine l_nil ?_
          refine then_norm ?_
          refine hK54 _ _ ?_
          clear hK54
          refine c_region ?_
          refine L_val (v := .int .i64 v12) (y_move (ev_tv rfl hs32)) ?_
          obtain ⟨r33, hr61⟩ : ∃ r33 : Int, r33 = IntKind.wrap .i64 (v12 + 1) := ⟨_, rfl⟩
          replace H := H r33 hr61
          refine L_val (v := .int .i64 r33) (y_add (ev_tv rfl rfl) ev_c hr61) ?_
          refine L_val (v := .int .i64 r33) (y_assign (ev_tv rfl rfl)) ?_
          refine l_nil ?_
          refine block_norm ?_
          refine then_norm ?_
          refine hK38 _ _ ?_
          clear hK38
          refine c_region ?_
          refine L_val (v := .int .i64 v13) (y_move (ev_tv rfl hs33)) ?_
          obtain ⟨r34, hr62⟩ : ∃ r34 : Int, r34 = IntKind.wrap .i64 (v13 + 1) := ⟨_, rfl⟩
          replace H := H r34 hr62
          refine L_val (v := .int .i64 r34) (y_add (ev_tv rfl rfl) ev_c hr62) ?_
          refine L_val (v := .int .i64 r34) (y_assign (ev_tv rfl rfl)) ?_
          refine l_nil ?_
          refine then_norm ?_
          obtain ⟨m35, hm63, H⟩ := H
          exact ⟨_, rfl, (by repeat (first | exact agree_refl | exact hag28 | refine agree_upd rfl ?_ | refine agree_via hag28 rfl ?_)), m35, hm63, _, _, rfl, rfl, H⟩
      · replace H := H.2 hb36
        have hq37 : Value.bool (decide ((v13 : Int) < ((a_s1l : Nat) : Int))) = Value.bool false := congrArg Value.bool (decide_eq_false hb36)
        refine cond_f (ev_tv rfl hq37) ?_
        refine c_exit ?_
        refine then_exit ?_
        refine then_exit ?_
        refine block_hit ?_
        refine then_norm ?_
        exact hK13 _ _ (by repeat (first | exact agree_refl | exact hag28 | refine agree_upd rfl ?_ | refine agree_via hag28 rfl ?_)) ⟨_, hs32, H⟩
    · clear H
      rintro f10 w7 hag11 ⟨v6, hs14, HJ12⟩
      have H := hJ9 v6 w7 HJ12
      clear hJ9
      refine c_seq ?_
      intro K15 hK15
      refine c_region ?_
      refine L_val (v := .slice a_s1 a_s1l a_s1c) (y_move (ev_tv rfl ((hag11 0 rfl).trans rfl))) ?_
      refine L_val (v := .int .i64 v6) (y_move (ev_tv rfl hs14)) ?_
      obtain ⟨hi17, hi18, H⟩ := H
      obtain ⟨a8, ha16⟩ : ∃ a8 : Option Addr, a8 = subA a_s1 2 a_s1c (v6 : Int).toNat := ⟨_, rfl⟩
      replace H := H a8 ha16
      refine L_val (v := .slice a8 (a_s1l - (v6 : Int).toNat) (a_s1c - (v6 : Int).toNat)) (y_sliceL Try.underlying40 Try.type31 rfl (ev_tv rfl rfl) (ev_tv rfl rfl) hi17 hi18 ha16) ?_
      obtain ⟨w9, hc19, H⟩ := H
      refine L_valn (v := .tuple #[]) (y_bi_clear (map_ev1 (ev_tv rfl rfl)) hc19) ?_
      refine l_nil ?_
      refine then_norm ?_
      refine hK15 _ _ ?_
      clear hK15
      refine c_seq ?_
      intro K20 hK20
      refine c_region ?_
      refine L_val (v := .slice a_s1 a_s1l a_s1c) (y_move (ev_tv rfl ((hag11 0 rfl).trans rfl))) ?_
      refine L_val (v := .int .i64 v6) (y_move (ev_tv rfl hs14)) ?_
      obtain ⟨hi22, hi23, H⟩ := H
      obtain ⟨a10, ha21⟩ : ∃ a10 : Option Addr, a10 = a_s1 := ⟨_, rfl⟩
      replace H := H a10 ha21
      refine L_val (v := .slice a10 ((v6 : Int).toNat) a_s1c) (y_sliceH Try.underlying40 Try.type31 (ev_tv rfl rfl) (ev_tv rfl rfl) hi22 hi23 ha21) ?_
      refine L_val (v := .slice a10 ((v6 : Int).toNat) a_s1c) (y_assign (ev_tv rfl rfl)) ?_
      refine l_nil ?_
      refine then_norm ?_
      refine hK20 _ _ ?_
      clear hK20
      refine c_ret ?_
      exact body_1 rfl (ev_tv rfl rfl) H

/-- (parapet/tlb.hart).forget$1 -/
def Vc38 (a_k1 : Int) (a_k2 : Int) (fv3 : Option Addr) (w : World) (R : Ending → World → Prop) : Prop :=
  (∀ (b4 : Nat) (w5 : World), b4 = World.heapSize w → w5 = World.alloc w (.cells #[.int .i64 a_k1, .int .i64 a_k2] 31) → (∃ x6 : Int, World.cell? w5 ⟨b4, 0, none⟩ = some (.int .i64 x6) ∧ (∃ (b7 o8 : Nat), fv3 = some ⟨b7, o8, none⟩ ∧ (∃ x9 : Int, World.cell? w5 ⟨b7, o8, none⟩ = some (.int .i64 x9) ∧ R (.returned (.bool (decide ((x6 : Int) = x9)))) w5))))

theorem vc38 {a_k1 : Int} {a_k2 : Int} {fv3 : Option Addr} {w : World} {R : Ending → World → Prop} (H : Vc38 a_k1 a_k2 fv3 w R) : Calls Try.prog 38 #[.agg #[.int .i64 a_k1, .int .i64 a_k2], .pointer fv3] w R := by
  unfold Vc38 at H
  refine calls_start [.agg #[.int .i64 a_k1, .int .i64 a_k2], .pointer fv3] Try.func38 rfl Try.ntmps38 rfl ?_
  refine c_seq ?_
  intro K1 hK1
  refine c_region ?_
  obtain ⟨b4, hb2⟩ : ∃ b4 : Nat, b4 = World.heapSize w := ⟨_, rfl⟩
  obtain ⟨w5, hw3⟩ : ∃ w5 : World, w5 = World.alloc w (.cells #[.int .i64 a_k1, .int .i64 a_k2] 31) := ⟨_, rfl⟩
  replace H := H b4 w5 hb2 hw3
  refine L_val (v := .pointer (some ⟨b4, 0, none⟩)) (y_box (ev_tv rfl rfl) rfl hb2 hw3) ?_
  refine L_val (v := .bool false) (y_assign ev_c) ?_
  refine l_nil ?_
  refine then_norm ?_
  refine hK1 _ _ ?_
  clear hK1
  refine c_seq ?_
  intro K4 hK4
  refine c_region ?_
  refine L_val (v := .pointer (some ⟨b4, 0, none⟩)) (Try.fa31_0 (ev_tv rfl rfl)) ?_
  obtain ⟨x6, hc5, H⟩ := H
  refine L_val (v := .int .i64 x6) (y_load Try.underlying3 rfl (ev_tv rfl rfl) hc5) ?_
  obtain ⟨b7, o8, rfl, H⟩ := H
  obtain ⟨x9, hc6, H⟩ := H
  refine L_val (v := .int .i64 x9) (y_load Try.underlying3 rfl (ev_tv rfl rfl) hc6) ?_
  refine L_val (v := .bool (decide ((x6 : Int) = x9))) (y_ieq (ev_tv rfl rfl) (ev_tv rfl rfl)) ?_
  refine L_val (v := .bool (decide ((x6 : Int) = x9))) (y_assign (ev_tv rfl rfl)) ?_
  refine l_nil ?_
  refine then_norm ?_
  refine hK4 _ _ ?_
  clear hK4
  refine c_ret ?_
  exact body_1 rfl (ev_tv rfl rfl) H

/-- maps.DeleteFunc[map[parapet/api.Key]uint32,parapet/api.Key,uint32] -/
def Vc39 (a_m1 : Option Nat) (a_del2 : Value) (w : World) (R : Ending → World → Prop) : Prop :=
  (∃ x4 : Option Addr, ∃ w3 : World, (Instr.range 57 (.map a_m1)).run Try.prog w = .ok (.pointer x4) w3 ∧ (∃ I3 : Nat → World → Prop, (∃ m, I3 m  w3) ∧ ∀ (m5 : Nat)  (w6 : World), I3 m5  w6 → (∃ nb7 : Bool, ∃ nv8 : Value, ∃ w9 : World, (Instr.next (.pointer x4) false 0).run Try.prog w6 = .ok nv8 w9 ∧ (∀ w' : World, (Instr.extract nv8 0).run Try.prog w' = .ok (.bool nb7) w') ∧ (((nb7 = true) → (∃ x10 : Int, ∃ x11 : Int, ∃ x12 : Int, (Instr.entry (.pointer x4)).run Try.prog w9 = .ok (.tuple #[.agg #[.int .i64 x10, .int .i64 x11], .int .u32 x12]) w9 ∧ (∀ (b13 : Nat) (w14 : World), b13 = World.heapSize w9 → w14 = World.alloc w9 (.cells #[.int .i64 0, .int .i64 0] 31) → ((∀ j, j < 2 → (World.cell? w14 (Addr.add ⟨b13, 0, none⟩ j)).isSome = true ∧ World.frozen? w14 (Addr.add ⟨b13, 0, none⟩ j) = false) ∧ ∀ w15 : World, w15 = putCells w14 ⟨b13, 0, none⟩ [.int .i64 x10, .int .i64 x11] 0 → (∃ x16 : Int, ∃ x17 : Int, CellsAt w15 ⟨b13, 0, none⟩ [.int .i64 x16, .int .i64 x17] ∧ (Invoke Try.prog a_del2 #[.agg #[.int .i64 x16, .int .i64 x17], .int .u32 x12] w15 fun e w19 => ∃ x18 : Bool, e = .returned (.bool x18) ∧ (((x18 = true) → (∃ x21 : Int, ∃ x22 : Int, CellsAt w19 ⟨b13, 0, none⟩ [.int .i64 x21, .int .i64 x22] ∧ (∃ w23 : World, (Builtin.delete_ #[57, 31] 0 #[.map a_m1, .agg #[.int .i64 x21, .int .i64 x22]]).run Try.prog w19 = .ok (.tuple #[]) w23 ∧ (∃ m24, m24 < m5 ∧ I3 m24  w23)))) ∧ ((x18 = false) → (∃ m25, m25 < m5 ∧ I3 m25  w19))))))))) ∧ ((nb7 = false) → R (.returned (.tuple #[])) w9)))))

theorem vc39 {a_m1 : Option Nat} {a_del2 : Value} {w : World} {R : Ending → World → Prop} (H : Vc39 a_m1 a_del2 w R) : Calls Try.prog 39 #[.map a_m1, a_del2] w R := by
  unfold Vc39 at H
  refine calls_start [.map a_m1, a_del2] Try.func39 rfl Try.ntmps39 rfl ?_
  refine c_seq ?_
  intro K1 hK1
  refine c_region ?_
  refine L_val (v := .map a_m1) (y_move (ev_tv rfl rfl)) ?_
  obtain ⟨x4, w3, hc2, H⟩ := H
  refine L_val (v := .pointer x4) (y_range (ev_tv rfl rfl) hc2) ?_
  refine l_nil ?_
  refine then_norm ?_
  refine hK1 _ _ ?_
  clear hK1
  refine c_block ?_
  obtain ⟨I3, ⟨m7, HI8⟩, H⟩ := H
  refine loop_fr ([(4, 5), (8, 18)]) (fun m ff ww => I3 m  ww) m7 HI8 ?_
  intro m5 f4 w6 hag5 HI6
  replace H := H m5  w6 HI6
  refine c_seq ?_
  intro K9 hK9
  refine c_region ?_
  obtain ⟨nb7, nv8, w9, hc10, hn11, H⟩ := H
  refine L_val (v := nv8) (y_next (ev_tv rfl ((hag5 7 rfl).trans rfl)) hc10) ?_
  refine L_val (v := .bool nb7) (y_extractV (ev_tv rfl rfl) (hn11 _)) ?_
  refine l_nil ?_
  refine then_norm ?_
  refine hK9 _ _ ?_
  clear hK9
  refine c_seq ?_
  intro K12 hK12
  rcases Bool.eq_false_or_eq_true nb7 with hb13 | hb13
  · replace H := H.1 hb13
    have hq14 : Value.bool (nb7) = Value.bool true := congrArg Value.bool hb13
    refine cond_t (ev_tv rfl hq14) ?_
    refine c_skip ?_
    refine then_norm ?_
    refine hK12 _ _ ?_
    clear hK12
    refine c_block ?_
    refine c_seq ?_
    intro K15 hK15
    refine c_region ?_
    obtain ⟨x10, x11, x12, hc16, H⟩ := H
    refine L_val (v := .tuple #[.agg #[.int .i64 x10, .int .i64 x11], .int .u32 x12]) (y_entry (ev_tv rfl ((hag5 7 rfl).trans rfl)) hc16) ?_
    refine L_val (v := .agg #[.int .i64 x10, .int .i64 x11]) (y_extract (ev_tv rfl rfl) rfl) ?_
    refine L_val (v := .int .u32 x12) (y_extract (ev_tv rfl rfl) rfl) ?_
    obtain ⟨b13, hb17⟩ : ∃ b13 : Nat, b13 = World.heapSize w9 := ⟨_, rfl⟩
    obtain ⟨w14, hw18⟩ : ∃ w14 : World, w14 = World.alloc w9 (.cells #[.int .i64 0, .int .i64 0] 31) := ⟨_, rfl⟩
    replace H := H b13 w14 hb17 hw18
    refine L_val (v := .pointer (some ⟨b13, 0, none⟩)) (y_alloc Try.type31 rfl rfl hb17 hw18) ?_
    obtain ⟨hc19, H⟩ := H
    obtain ⟨w15, hw21⟩ : ∃ w15 : World, w15 = putCells w14 ⟨b13, 0, none⟩ [.int .i64 x10, .int .i64 x11] 0 := ⟨_, rfl⟩
    replace H := H w15 hw21
    refine L_skip (y_storeAgg Try.type31 rfl (by intro v hv; simp only [List.mem_cons, List.not_mem_nil, or_false] at hv; rcases hv with rfl | rfl <;> rfl) (ev_tv rfl rfl) (ev_tv rfl rfl) hc19 hw21) ?_
    refine L_val (v := .int .u32 x12) (y_assign (ev_tv rfl rfl)) ?_
    refine l_nil ?_
    refine then_norm ?_
    refine hK15 _ _ ?_
    clear hK15
    refine c_seq ?_
    intro K22 hK22
    refine c_region ?_
    refine L_val (v := a_del2) (y_move (ev_tv rfl ((hag5 1 rfl).trans rfl))) ?_
    obtain ⟨x16, x17, hc23, H⟩ := H
    refine L_val (v := .agg #[.int .i64 x16, .int .i64 x17]) (y_loadAgg Try.underlying31 rfl Try.type31 rfl (ev_tv rfl rfl) hc23) ?_
    refine L_val (v := .int .u32 x12) (y_move (ev_tv rfl rfl)) ?_
    obtain ⟨khk30, firsthk30, caphk30, hi31, hk30, H⟩ := H
    refine L_call (y_callv hk30 (map_ev2 (ev_tv rfl rfl) (ev_tv rfl rfl)) ((ev_tv rfl rfl).trans hi31)) (Calls.mono H ?_)
    clear H
    rintro _ w19 ⟨x18, rfl, H⟩
    refine ⟨_, rfl, ?_⟩
    refine l_nil ?_
    refine then_norm ?_
    refine hK22 _ _ ?_
    clear hK22
    rcases Bool.eq_false_or_eq_true x18 with hb24 | hb24
    · replace H := H.1 hb24
      have hq25 : Value.bool (x18) = Value.bool true := congrArg Value.bool hb24
      refine cond_t (ev_tv rfl hq25) ?_
      refine c_region ?_
      refine L_val (v := .map a_m1) (y_move (ev_tv rfl ((hag5 0 rfl).trans rfl))) ?_
      obtain ⟨x21, x22, hc26, H⟩ := H
      refine L_val (v := .agg #[.int .i64 x21, .int .i64 x22]) (y_loadAgg Try.underlying31 rfl Try.type31 rfl (ev_tv rfl rfl) hc26) ?_
      obtain ⟨w23, hc27, H⟩ := H
      refine L_valn (v := .tuple #[]) (y_bi_delete (map_ev2 (ev_tv rfl rfl) (ev_tv rfl rfl)) hc27) ?_
      refine l_nil ?_
      refine block_norm ?_
      refine then_norm ?_
      obtain ⟨m24, hm28, H⟩ := H
      exact ⟨_, rfl, (by repeat (first | exact agree_refl | exact hag5 | refine agree_upd rfl ?_ | refine agree_via hag5 rfl ?_)), m24, hm28, H⟩
    · replace H := H.2 hb24
      have hq25 : Value.bool (x18) = Value.bool false := congrArg Value.bool hb24
      refine cond_f (ev_tv rfl hq25) ?_
      refine c_skip ?_
      refine block_norm ?_
      refine then_norm ?_
      obtain ⟨m25, hm29, H⟩ := H
      exact ⟨_, rfl, (by repeat (first | exact agree_refl | exact hag5 | refine agree_upd rfl ?_ | refine agree_via hag5 rfl ?_)), m25, hm29, H⟩
  · replace H := H.2 hb13
    have hq14 : Value.bool (nb7) = Value.bool false := congrArg Value.bool hb13
    refine cond_f (ev_tv rfl hq14) ?_
    refine c_exit ?_
    refine then_exit ?_
    refine then_exit ?_
    refine block_hit ?_
    refine body_norm ?_
    exact body_0 rfl H

/-- (parapet/tlb.hart).forget$2 -/
def Vc40 (a_k1 : Int) (a_k2 : Int) (a_p13 : Int) (fv4 : Option Addr) (w : World) (R : Ending → World → Prop) : Prop :=
  (∀ (b5 : Nat) (w6 : World), b5 = World.heapSize w → w6 = World.alloc w (.cells #[.int .i64 a_k1, .int .i64 a_k2] 31) → (∃ x7 : Int, World.cell? w6 ⟨b5, 0, none⟩ = some (.int .i64 x7) ∧ (∃ (b8 o9 : Nat), fv4 = some ⟨b8, o9, none⟩ ∧ (∃ x10 : Int, World.cell? w6 ⟨b8, o9, none⟩ = some (.int .i64 x10) ∧ R (.returned (.bool (decide ((x7 : Int) = x10)))) w6))))

theorem vc40 {a_k1 : Int} {a_k2 : Int} {a_p13 : Int} {fv4 : Option Addr} {w : World} {R : Ending → World → Prop} (H : Vc40 a_k1 a_k2 a_p13 fv4 w R) : Calls Try.prog 40 #[.agg #[.int .i64 a_k1, .int .i64 a_k2], .int .u32 a_p13, .pointer fv4] w R := by
  unfold Vc40 at H
  refine calls_start [.agg #[.int .i64 a_k1, .int .i64 a_k2], .int .u32 a_p13, .pointer fv4] Try.func40 rfl Try.ntmps40 rfl ?_
  refine c_seq ?_
  intro K1 hK1
  refine c_region ?_
  obtain ⟨b5, hb2⟩ : ∃ b5 : Nat, b5 = World.heapSize w := ⟨_, rfl⟩
  obtain ⟨w6, hw3⟩ : ∃ w6 : World, w6 = World.alloc w (.cells #[.int .i64 a_k1, .int .i64 a_k2] 31) := ⟨_, rfl⟩
  replace H := H b5 w6 hb2 hw3
  refine L_val (v := .pointer (some ⟨b5, 0, none⟩)) (y_box (ev_tv rfl rfl) rfl hb2 hw3) ?_
  refine L_val (v := .bool false) (y_assign ev_c) ?_
  refine l_nil ?_
  refine then_norm ?_
  refine hK1 _ _ ?_
  clear hK1
  refine c_seq ?_
  intro K4 hK4
  refine c_region ?_
  refine L_val (v := .pointer (some ⟨b5, 0, none⟩)) (Try.fa31_0 (ev_tv rfl rfl)) ?_
  obtain ⟨x7, hc5, H⟩ := H
  refine L_val (v := .int .i64 x7) (y_load Try.underlying3 rfl (ev_tv rfl rfl) hc5) ?_
  obtain ⟨b8, o9, rfl, H⟩ := H
  obtain ⟨x10, hc6, H⟩ := H
  refine L_val (v := .int .i64 x10) (y_load Try.underlying3 rfl (ev_tv rfl rfl) hc6) ?_
  refine L_val (v := .bool (decide ((x7 : Int) = x10))) (y_ieq (ev_tv rfl rfl) (ev_tv rfl rfl)) ?_
  refine L_val (v := .bool (decide ((x7 : Int) = x10))) (y_assign (ev_tv rfl rfl)) ?_
  refine l_nil ?_
  refine then_norm ?_
  refine hK4 _ _ ?_
  clear hK4
  refine c_ret ?_
  exact body_1 rfl (ev_tv rfl rfl) H

/-- slices.IndexFunc[[]parapet/api.Key,parapet/api.Key] -/
def Vc54 (a_s1 : Option Addr) (a_s1l : Nat) (a_s1c : Nat) (a_f2 : Value) (w : World) (R : Ending → World → Prop) : Prop :=
  (∃ I4 : Nat → Int → World → Prop, (∃ m, I4 m 0 w) ∧ ∀ (m4 : Nat) (v3 : Int) (w5 : World), I4 m4 v3 w5 → ((((v3 : Int) < ((a_s1l : Nat) : Int)) → (∃ (b6 o7 : Nat), a_s1 = some ⟨b6, o7, none⟩ ∧ ((0 : Int) ≤ v3 ∧ v3 < ((a_s1l : Nat) : Int) ∧ (∃ x8 : Int, ∃ x9 : Int, CellsAt w5 ⟨b6, o7 + (v3 : Int).toNat * 2, none⟩ [.int .i64 x8, .int .i64 x9] ∧ (Invoke Try.prog a_f2 #[.agg #[.int .i64 x8, .int .i64 x9]] w5 fun e w11 => ∃ x10 : Bool, e = .returned (.bool x10) ∧ (((x10 = true) → R (.returned (.int .i64 v3)) w11) ∧ ((x10 = false) → (∀ r13 : Int, r13 = IntKind.wrap .i64 (v3 + 1) → (∃ m14, m14 < m4 ∧ I4 m14 r13 w11))))))))) ∧ ((¬ ((v3 : Int) < ((a_s1l : Nat) : Int))) → R (.returned (.int .i64 (-1))) w5)))

theorem vc54 {a_s1 : Option Addr} {a_s1l : Nat} {a_s1c : Nat} {a_f2 : Value} {w : World} {R : Ending → World → Prop} (H : Vc54 a_s1 a_s1l a_s1c a_f2 w R) : Calls Try.prog 54 #[.slice a_s1 a_s1l a_s1c, a_f2] w R := by
  unfold Vc54 at H
  refine calls_start [.slice a_s1 a_s1l a_s1c, a_f2] Try.func54 rfl Try.ntmps54 rfl ?_
  refine c_seq ?_
  intro K1 hK1
  refine c_region ?_
  refine L_val (v := .int .i64 0) (y_assign ev_c) ?_
  refine l_nil ?_
  refine then_norm ?_
  refine hK1 _ _ ?_
  clear hK1
  refine c_seq ?_
  intro K2 hK2
  refine c_seq ?_
  intro K3 hK3
  refine c_region ?_
  refine L_val (v := .slice a_s1 a_s1l a_s1c) (y_move (ev_tv rfl rfl)) ?_
  refine L_val (v := .int .i64 ((a_s1l : Nat) : Int)) (y_len Try.underlying40 rfl (map_ev1 (ev_tv rfl rfl))) ?_
  refine L_val (v := .int .i64 0) (y_move ev_c) ?_
  refine l_nil ?_
  refine then_norm ?_
  refine hK3 _ _ ?_
  clear hK3
  refine c_block ?_
  obtain ⟨I4, ⟨m8, HI9⟩, H⟩ := H
  refine loop_fr ([(4, 5), (8, 18)]) (fun m ff ww => ∃ (v3 : Int), ff 8 = (.int .i64 v3 : Value) ∧ I4 m v3 ww) m8 ⟨0, rfl, HI9⟩ ?_
  rintro m4 f5 w5 hag6 ⟨v3, hs10, HI7⟩
  replace H := H m4 v3 w5 HI7
  refine c_seq ?_
  intro K11 hK11
  refine c_region ?_
  refine L_val (v := .bool (decide ((v3 : Int) < ((a_s1l : Nat) : Int)))) (y_lss (ev_tv rfl hs10) (ev_tv rfl ((hag6 7 rfl).trans rfl))) ?_
  refine l_nil ?_
  refine then_norm ?_
  refine hK11 _ _ ?_
  clear hK11
  refine c_seq ?_
  intro K12 hK12
  rcases (Decidable.em ((v3 : Int) < ((a_s1l : Nat) : Int))) with hb13 | hb13
  · replace H := H.1 hb13
    have hq14 : Value.bool (decide ((v3 : Int) < ((a_s1l : Nat) : Int))) = Value.bool true := congrArg Value.bool (decide_eq_true hb13)
    refine cond_t (ev_tv rfl hq14) ?_
    refine c_skip ?_
    refine then_norm ?_
    refine hK12 _ _ ?_
    clear hK12
    refine c_seq ?_
    intro K15 hK15
    refine c_block ?_
    refine c_seq ?_
    intro K16 hK16
    refine c_region ?_
    refine L_val (v := .int .i64 v3) (y_move (ev_tv rfl hs10)) ?_
    refine L_val (v := .int .i64 v3) (y_assign (ev_tv rfl rfl)) ?_
    refine l_nil ?_
    refine then_norm ?_
    refine hK16 _ _ ?_
    clear hK16
    refine c_seq ?_
    intro K17 hK17
    refine c_region ?_
    refine L_val (v := a_f2) (y_move (ev_tv rfl ((hag6 1 rfl).trans rfl))) ?_
    refine L_val (v := .slice a_s1 a_s1l a_s1c) (y_move (ev_tv rfl ((hag6 0 rfl).trans rfl))) ?_
    refine L_val (v := .int .i64 v3) (y_move (ev_tv rfl rfl)) ?_
    obtain ⟨b6, o7, rfl, H⟩ := H
    obtain ⟨hi18, hi19, H⟩ := H
    refine L_val (v := .pointer (some ⟨b6, o7 + (v3 : Int).toNat * 2, none⟩)) (y_ix Try.underlying40 Try.type31 rfl (ev_tv rfl rfl) (ev_tv rfl rfl) hi18 hi19) ?_
    obtain ⟨x8, x9, hc20, H⟩ := H
    refine L_val (v := .agg #[.int .i64 x8, .int .i64 x9]) (y_loadAgg Try.underlying31 rfl Try.type31 rfl (ev_tv rfl rfl) hc20) ?_
    obtain ⟨khk26, firsthk26, caphk26, hi27, hk26, H⟩ := H
    refine L_call (y_callv hk26 (map_ev1 (ev_tv rfl rfl)) ((ev_tv rfl rfl).trans hi27)) (Calls.mono H ?_)
    clear H
    rintro _ w11 ⟨x10, rfl, H⟩
    refine ⟨_, rfl, ?_⟩
    refine l_nil ?_
    refine then_norm ?_
    refine hK17 _ _ ?_
    clear hK17
    rcases Bool.eq_false_or_eq_true x10 with hb21 | hb21
    · replace H := H.1 hb21
      have hq22 : Value.bool (x10) = Value.bool true := congrArg Value.bool hb21
      refine cond_t (ev_tv rfl hq22) ?_
      refine c_seq ?_
      intro K23 hK23
      refine c_region ?_
      refine L_val (v := .int .i64 v3) (y_move (ev_tv rfl rfl)) ?_
      refine L_val (v := .int .i64 v3) (y_assign (ev_tv rfl rfl)) ?_
      refine l_nil ?_
      refine then_norm ?_
      refine hK23 _ _ ?_
      clear hK23
      refine c_ret ?_
      refine block_ret ?_
      refine then_ret ?_
      refine then_ret ?_
      refine block_ret ?_
      refine then_ret ?_
      exact body_1 rfl (ev_tv rfl rfl) H
    · replace H := H.2 hb21
      have hq22 : Value.bool (x10) = Value.bool false := congrArg Value.bool hb21
      refine cond_f (ev_tv rfl hq22) ?_
      refine c_skip ?_
      refine block_norm ?_
      refine then_norm ?_
      refine hK15 _ _ ?_
      clear hK15
      refine c_region ?_
      obtain ⟨r13, hr24⟩ : ∃ r13 : Int, r13 = IntKind.wrap .i64 (v3 + 1) := ⟨_, rfl⟩
      replace H := H r13 hr24
      refine L_val (v := .int .i64 r13) (y_add (ev_tv rfl hs10) ev_c hr24) ?_
      refine L_val (v := .int .i64 r13) (y_move (ev_tv rfl rfl)) ?_
      refine l_nil ?_
      refine then_norm ?_
      obtain ⟨m14, hm25, H⟩ := H
      exact ⟨_, rfl, (by repeat (first | exact agree_refl | exact hag6 | refine agree_upd rfl ?_ | refine agree_via hag6 rfl ?_)), m14, hm25, _, rfl, H⟩
  · replace H := H.2 hb13
    have hq14 : Value.bool (decide ((v3 : Int) < ((a_s1l : Nat) : Int))) = Value.bool false := congrArg Value.bool (decide_eq_false hb13)
    refine cond_f (ev_tv rfl hq14) ?_
    refine c_exit ?_
    refine then_exit ?_
    refine then_exit ?_
    refine block_hit ?_
    refine then_norm ?_
    refine hK2 _ _ ?_
    clear hK2
    refine c_seq ?_
    intro K28 hK28
    refine c_region ?_
    refine L_val (v := .int .i64 (-1)) (y_assign ev_c) ?_
    refine l_nil ?_
    refine then_norm ?_
    refine hK28 _ _ ?_
    clear hK28
    refine c_ret ?_
    exact body_1 rfl (ev_tv rfl rfl) H

end Go.Proofs.Ytdhdbdpemejpjaa
