/- For each Go function: what must be shown of it, and that this is enough. Printed by a program over the seat's translation. -/
import Derived.Test.YtdhdbdpemejpjaaVcGenB
namespace Go.Proofs.Ytdhdbdpemejpjaa
open Go Go.Vc
set_option maxRecDepth 100000
set_option linter.unusedVariables false
set_option maxHeartbeats 2000000

/-- (parapet/parapetref07.Tlb).Start -/
def Vc28 (a_t1 : Option Addr) (a_space2 : Int) (a_targets3 : Option Addr) (a_targets3l : Nat) (a_targets3c : Nat) (w : World) (R : Ending → World → Prop) : Prop :=
  (∃ J2 : World → Prop, (∀  (w4 : World), J2  w4 → (∃ (b5 o6 : Nat), a_t1 = some ⟨b5, o6, none⟩ ∧ (∃ x7 : Option Addr, ∃ x7l : Nat, ∃ x7c : Nat, World.cell? (w4.drew) ⟨b5, o6 + 2, none⟩ = some (.slice x7 x7l x7c) ∧ (∃ x8 : Option Addr, ∃ x8l : Nat, ∃ x8c : Nat, World.cell? (w4.drew) ⟨b5, o6 + 2, none⟩ = some (.slice x8 x8l x8c) ∧ (∀ r9 : Int, r9 = IntKind.wrap .i64 (((x8l : Nat) : Int) + 1) → (∀ (b10 : Nat) (w11 : World), b10 = World.heapSize (w4.drew) → w11 = World.alloc (w4.drew) (.cells #[] 3) → (World.cell? w11 ⟨b5, o6 + 2, none⟩ = some (.slice x8 x8l x8c) ∧ World.cell? w11 ⟨b5, o6 + 2, none⟩ = some (.slice x7 x7l x7c) ∧ (∃ x13 : Option Addr, ∃ x13l : Nat, ∃ x13c : Nat, ∃ w12 : World, (Builtin.append_ #[23, 23] 23 #[.slice (some ⟨b10, 0, none⟩) 0 0, .slice a_targets3 a_targets3l a_targets3c]).run Try.prog w11 = .ok (.slice x13 x13l x13c) w12 ∧ (World.cell? w12 ⟨b5, o6 + 2, none⟩ = some (.slice x8 x8l x8c) ∧ World.cell? w12 ⟨b5, o6 + 2, none⟩ = some (.slice x7 x7l x7c) ∧ (∀ (b14 : Nat) (w15 : World), b14 = World.heapSize w12 → w15 = World.alloc w12 (.cells #[.int .i64 r9, .int .i64 a_space2, .slice x13 x13l x13c] 84) → (World.cell? w15 ⟨b5, o6 + 2, none⟩ = some (.slice x8 x8l x8c) ∧ World.cell? w15 ⟨b5, o6 + 2, none⟩ = some (.slice x7 x7l x7c) ∧ (∃ x17 : Option Addr, ∃ x17l : Nat, ∃ x17c : Nat, ∃ w16 : World, (Builtin.append_ #[69, 69] 69 #[.slice x7 x7l x7c, .slice (some ⟨b14, 0, none⟩) 1 1]).run Try.prog w15 = .ok (.slice x17 x17l x17c) w16 ∧ (World.cell? w16 ⟨b5, o6 + 2, none⟩ = some (.slice x8 x8l x8c) ∧ ((World.cell? w16 ⟨b5, o6 + 2, none⟩).isSome = true ∧ World.frozen? w16 ⟨b5, o6 + 2, none⟩ = false ∧ ∀ w18 : World, w18 = World.setCell w16 ⟨b5, o6 + 2, none⟩ (.slice x17 x17l x17c) → (∃ x19 : Option Addr, ∃ x19l : Nat, ∃ x19c : Nat, World.cell? w18 ⟨b5, o6 + 2, none⟩ = some (.slice x19 x19l x19c) ∧ R (.returned (.tuple #[.int .i64 ((x19l : Nat) : Int), .int .i64 0])) w18))))))))))))))) ∧ (∃ I31 : Nat → Int → World → Prop, (∃ m, I31 m 0 w) ∧ ∀ (m21 : Nat) (v20 : Int) (w22 : World), I31 m21 v20 w22 → ((((v20 : Int) < ((a_targets3l : Nat) : Int)) → (∃ (b23 o24 : Nat), a_targets3 = some ⟨b23, o24, none⟩ ∧ ((0 : Int) ≤ v20 ∧ v20 < ((a_targets3l : Nat) : Int) ∧ (∃ x25 : Int, World.cell? w22 ⟨b23, o24 + (v20 : Int).toNat, none⟩ = some (.int .i64 x25) ∧ (Calls Try.prog 41 #[.pointer a_t1, .int .i64 x25] w22 fun e w27 => ∃ x26 : Bool, e = .returned (.bool x26) ∧ (((x26 = true) → (∃ I51 : Nat → Int → World → Prop, (∃ m, I51 m 0 w27) ∧ ∀ (m30 : Nat) (v29 : Int) (w31 : World), I51 m30 v29 w31 → ((((v29 : Int) < v20) → ((0 : Int) ≤ v29 ∧ v29 < ((a_targets3l : Nat) : Int) ∧ ((0 : Int) ≤ v20 ∧ v20 < ((a_targets3l : Nat) : Int) ∧ (∃ x32 : Int, World.cell? (w31.drew) ⟨b23, o24 + (v29 : Int).toNat, none⟩ = some (.int .i64 x32) ∧ (∃ x33 : Int, World.cell? (w31.drew) ⟨b23, o24 + (v20 : Int).toNat, none⟩ = some (.int .i64 x33) ∧ ((((x32 : Int) = x33) → R (.returned (.tuple #[.int .i64 0, .int .i64 1])) (w31.drew)) ∧ ((¬ ((x32 : Int) = x33)) → (∀ r34 : Int, r34 = IntKind.wrap .i64 (v29 + 1) → (∃ m35, m35 < m30 ∧ I51 m35 r34 (w31.drew)))))))))) ∧ ((¬ ((v29 : Int) < v20)) → (∀ r36 : Int, r36 = IntKind.wrap .i64 (v20 + 1) → (∃ m37, m37 < m21 ∧ I31 m37 r36 w31)))))) ∧ ((x26 = false) → R (.returned (.tuple #[.int .i64 0, .int .i64 1])) w27))))))) ∧ ((¬ ((v20 : Int) < ((a_targets3l : Nat) : Int))) → J2  w22))))

theorem vc28 {a_t1 : Option Addr} {a_space2 : Int} {a_targets3 : Option Addr} {a_targets3l : Nat} {a_targets3c : Nat} {w : World} {R : Ending → World → Prop} (H : Vc28 a_t1 a_space2 a_targets3 a_targets3l a_targets3c w R) : Calls Try.prog 28 #[.pointer a_t1, .int .i64 a_space2, .slice a_targets3 a_targets3l a_targets3c] w R := by
  unfold Vc28 at H
  refine calls_start [.pointer a_t1, .int .i64 a_space2, .slice a_targets3 a_targets3l a_targets3c] Try.func28 rfl Try.ntmps28 rfl ?_
  refine c_seq ?_
  intro K1 hK1
  refine c_region ?_
  refine L_val (v := .int .i64 0) (y_assign ev_c) ?_
  refine L_val (v := .int .i64 0) (y_assign ev_c) ?_
  refine l_nil ?_
  refine then_norm ?_
  refine hK1 _ _ ?_
  clear hK1
  obtain ⟨J2, hJ3, H⟩ := H
  refine c_seqJ [(6, 36)] (fun ff ww => J2  ww) ?_ ?_
  · clear hJ3
    intro K7 hK7
    refine c_seq ?_
    intro K30 hK30
    refine c_region ?_
    refine L_val (v := .int .i64 0) (y_assign ev_c) ?_
    refine l_nil ?_
    refine then_norm ?_
    refine hK30 _ _ ?_
    clear hK30
    refine c_block ?_
    obtain ⟨I31, ⟨m35, HI36⟩, H⟩ := H
    refine loop_fr ([(6, 36)]) (fun m ff ww => ∃ (v20 : Int), ff 8 = (.int .i64 v20 : Value) ∧ I31 m v20 ww) m35 ⟨0, rfl, HI36⟩ ?_
    rintro m21 f32 w22 hag33 ⟨v20, hs37, HI34⟩
    replace H := H m21 v20 w22 HI34
    refine c_seq ?_
    intro K38 hK38
    refine c_seq ?_
    intro K39 hK39
    refine c_region ?_
    refine L_val (v := .int .i64 v20) (y_move (ev_tv rfl hs37)) ?_
    refine L_val (v := .slice a_targets3 a_targets3l a_targets3c) (y_move (ev_tv rfl ((hag33 2 rfl).trans rfl))) ?_
    refine L_val (v := .int .i64 ((a_targets3l : Nat) : Int)) (y_len Try.underlying23 rfl (map_ev1 (ev_tv rfl rfl))) ?_
    refine L_val (v := .bool (decide ((v20 : Int) < ((a_targets3l : Nat) : Int)))) (y_lss (ev_tv rfl rfl) (ev_tv rfl rfl)) ?_
    refine l_nil ?_
    refine then_norm ?_
    refine hK39 _ _ ?_
    clear hK39
    rcases (Decidable.em ((v20 : Int) < ((a_targets3l : Nat) : Int))) with hb40 | hb40
    · replace H := H.1 hb40
      have hq41 : Value.bool (decide ((v20 : Int) < ((a_targets3l : Nat) : Int))) = Value.bool true := congrArg Value.bool (decide_eq_true hb40)
      refine cond_t (ev_tv rfl hq41) ?_
      refine c_skip ?_
      refine then_norm ?_
      refine hK38 _ _ ?_
      clear hK38
      refine c_seq ?_
      intro K42 hK42
      refine c_block ?_
      refine c_seq ?_
      intro K43 hK43
      refine c_seq ?_
      intro K44 hK44
      refine c_region ?_
      refine L_val (v := .pointer a_t1) (y_move (ev_tv rfl ((hag33 0 rfl).trans rfl))) ?_
      refine L_val (v := .slice a_targets3 a_targets3l a_targets3c) (y_move (ev_tv rfl ((hag33 2 rfl).trans rfl))) ?_
      refine L_val (v := .int .i64 v20) (y_move (ev_tv rfl hs37)) ?_
      obtain ⟨b23, o24, rfl, H⟩ := H
      obtain ⟨hi45, hi46, H⟩ := H
      refine L_val (v := .pointer (some ⟨b23, o24 + (v20 : Int).toNat, none⟩)) (y_ix1 Try.underlying23 Try.type3 rfl (ev_tv rfl rfl) (ev_tv rfl rfl) hi45 hi46) ?_
      obtain ⟨x25, hc47, H⟩ := H
      refine L_val (v := .int .i64 x25) (y_load Try.underlying3 rfl (ev_tv rfl rfl) hc47) ?_
      refine L_call (y_call Try.call41 (map_ev2 (ev_tv rfl rfl) (ev_tv rfl rfl)) ev_f) (Calls.mono H ?_)
      clear H
      rintro _ w27 ⟨x26, rfl, H⟩
      refine ⟨_, rfl, ?_⟩
      rcases Bool.eq_false_or_eq_true x26 with hb48 | hb48
      · replace H := H.1 hb48
        have hq49 : Value.bool (x26) = Value.bool true := congrArg Value.bool hb48
        refine L_val (v := .bool false) (y_not_t (ev_tv rfl hq49)) ?_
        refine l_nil ?_
        refine then_norm ?_
        refine hK44 _ _ ?_
        clear hK44
        refine cond_f (ev_tv rfl rfl) ?_
        refine c_skip ?_
        refine then_norm ?_
        refine hK43 _ _ ?_
        clear hK43
        refine c_seq ?_
        intro K50 hK50
        refine c_region ?_
        refine L_val (v := .int .i64 0) (y_assign ev_c) ?_
        refine l_nil ?_
        refine then_norm ?_
        refine hK50 _ _ ?_
        clear hK50
        refine c_block ?_
        obtain ⟨I51, ⟨m55, HI56⟩, H⟩ := H
        refine loop_fr ([(6, 7), (9, 9), (23, 36)]) (fun m ff ww => ∃ (v29 : Int), ff 9 = (.int .i64 v29 : Value) ∧ I51 m v29 ww) m55 ⟨0, rfl, HI56⟩ ?_
        rintro m30 f52 w31 hag53 ⟨v29, hs57, HI54⟩
        replace H := H m30 v29 w31 HI54
        refine c_seq ?_
        intro K58 hK58
        refine c_seq ?_
        intro K59 hK59
        refine c_region ?_
        refine L_val (v := .int .i64 v29) (y_move (ev_tv rfl hs57)) ?_
        refine L_val (v := .int .i64 v20) (y_move (ev_tv rfl ((hag53 8 rfl).trans hs37))) ?_
        refine L_val (v := .bool (decide ((v29 : Int) < v20))) (y_lss (ev_tv rfl rfl) (ev_tv rfl rfl)) ?_
        refine l_nil ?_
        refine then_norm ?_
        refine hK59 _ _ ?_
        clear hK59
        rcases (Decidable.em ((v29 : Int) < v20)) with hb60 | hb60
        · replace H := H.1 hb60
          have hq61 : Value.bool (decide ((v29 : Int) < v20)) = Value.bool true := congrArg Value.bool (decide_eq_true hb60)
          refine cond_t (ev_tv rfl hq61) ?_
          refine c_skip ?_
          refine then_norm ?_
          refine hK58 _ _ ?_
          clear hK58
          refine c_seq ?_
          intro K62 hK62
          refine c_block ?_
          refine c_seq ?_
          intro K63 hK63
          refine D_start Try.mixed rfl [] ?_
          refine start_keep fun hS => ?_
          refine D_pure (i := 0) (v := .slice (some ⟨b23, o24, none⟩) a_targets3l a_targets3c) rfl (by kernel_rfl) (W_none rfl) (fun _ => y_move (ev_tv rfl ((hag53 2 rfl).trans ((hag33 2 rfl).trans rfl)))) hS ?_
          intro hS
          refine D_pure (i := 1) (v := .int .i64 v29) rfl (by kernel_rfl) (W_none rfl) (fun _ => y_move (ev_tv rfl hs57)) hS ?_
          intro hS
          obtain ⟨hi64, hi65, H⟩ := H
          refine D_pure (i := 2) (v := .pointer (some ⟨b23, o24 + (v29 : Int).toNat, none⟩)) rfl (by kernel_rfl) (W_none rfl) (fun _ => y_ix1 Try.underlying23 Try.type3 rfl (ev_tv rfl rfl) (ev_tv rfl rfl) hi64 hi65) hS ?_
          intro hS
          refine D_pure (i := 4) (v := .slice (some ⟨b23, o24, none⟩) a_targets3l a_targets3c) rfl (by kernel_rfl) (W_none rfl) (fun _ => y_move (ev_tv rfl ((hag53 2 rfl).trans ((hag33 2 rfl).trans rfl)))) hS ?_
          intro hS
          refine D_pure (i := 5) (v := .int .i64 v20) rfl (by kernel_rfl) (W_none rfl) (fun _ => y_move (ev_tv rfl ((hag53 8 rfl).trans hs37))) hS ?_
          intro hS
          obtain ⟨hi66, hi67, H⟩ := H
          refine D_pure (i := 6) (v := .pointer (some ⟨b23, o24 + (v20 : Int).toNat, none⟩)) rfl (by kernel_rfl) (W_none rfl) (fun _ => y_ix1 Try.underlying23 Try.type3 rfl (ev_tv rfl rfl) (ev_tv rfl rfl) hi66 hi67) hS ?_
          intro hS
          obtain ⟨x32, hc68, H⟩ := H
          refine D_read (i := 3) (v := .int .i64 x32) rfl (by kernel_rfl) (W_none rfl) (fun wx => World.cell? wx ⟨b23, o24 + (v29 : Int).toNat, none⟩ = some (.int .i64 x32)) hc68 (fun _ hcx => y_load Try.underlying3 rfl (ev_tv rfl rfl) hcx) hS ?_
          intro hS
          obtain ⟨x33, hc69, H⟩ := H
          refine D_read (i := 7) (v := .int .i64 x33) rfl (by kernel_rfl) (W_none rfl) (fun wx => World.cell? wx ⟨b23, o24 + (v20 : Int).toNat, none⟩ = some (.int .i64 x33)) hc69 (fun _ hcx => y_load Try.underlying3 rfl (ev_tv rfl rfl) hcx) hS ?_
          intro hS
          refine D_pure (i := 8) (v := .bool (decide ((x32 : Int) = x33))) rfl (by kernel_rfl) (W_none rfl) (fun _ => y_ieq (ev_tv rfl rfl) (ev_tv rfl rfl)) hS ?_
          intro hS
          refine D_done (by kernel_rfl) ?_
          refine then_norm ?_
          refine hK63 _ _ ?_
          clear hK63
          rcases (Decidable.em ((x32 : Int) = x33)) with hb70 | hb70
          · replace H := H.1 hb70
            have hq71 : Value.bool (decide ((x32 : Int) = x33)) = Value.bool true := congrArg Value.bool (decide_eq_true hb70)
            refine cond_t (ev_tv rfl hq71) ?_
            refine c_seq ?_
            intro K72 hK72
            refine c_region ?_
            refine L_val (v := .int .i64 0) (y_assign ev_c) ?_
            refine L_val (v := .int .i64 1) (y_assign ev_c) ?_
            refine l_nil ?_
            refine then_norm ?_
            refine hK72 _ _ ?_
            clear hK72
            refine c_ret ?_
            refine block_ret ?_
            refine then_ret ?_
            refine then_ret ?_
            refine block_ret ?_
            refine block_ret ?_
            refine then_ret ?_
            refine then_ret ?_
            refine block_ret ?_
            refine then_ret ?_
            exact body_2 rfl (ev_tv rfl rfl) (ev_tv rfl rfl) H
          · replace H := H.2 hb70
            have hq71 : Value.bool (decide ((x32 : Int) = x33)) = Value.bool false := congrArg Value.bool (decide_eq_false hb70)
            refine cond_f (ev_tv rfl hq71) ?_
            refine c_skip ?_
            refine block_norm ?_
            refine then_norm ?_
            refine hK62 _ _ ?_
            clear hK62
            refine c_region ?_
            refine L_val (v := .int .i64 v29) (y_move (ev_tv rfl hs57)) ?_
            obtain ⟨r34, hr73⟩ : ∃ r34 : Int, r34 = IntKind.wrap .i64 (v29 + 1) := ⟨_, rfl⟩
            replace H := H r34 hr73
            refine L_val (v := .int .i64 r34) (y_add (ev_tv rfl rfl) ev_c hr73) ?_
            refine L_val (v := .int .i64 r34) (y_assign (ev_tv rfl rfl)) ?_
            refine l_nil ?_
            refine then_norm ?_
            obtain ⟨m35, hm74, H⟩ := H
            exact ⟨_, rfl, (by repeat (first | exact agree_refl | exact hag53 | exact hag33 | refine agree_upd rfl ?_ | refine agree_via hag53 rfl ?_ | refine agree_via hag33 rfl ?_)), m35, hm74, _, rfl, H⟩
        · replace H := H.2 hb60
          have hq61 : Value.bool (decide ((v29 : Int) < v20)) = Value.bool false := congrArg Value.bool (decide_eq_false hb60)
          refine cond_f (ev_tv rfl hq61) ?_
          refine c_exit ?_
          refine then_exit ?_
          refine then_exit ?_
          refine block_hit ?_
          refine block_norm ?_
          refine then_norm ?_
          refine hK42 _ _ ?_
          clear hK42
          refine c_region ?_
          refine L_val (v := .int .i64 v20) (y_move (ev_tv rfl ((hag53 8 rfl).trans hs37))) ?_
          obtain ⟨r36, hr75⟩ : ∃ r36 : Int, r36 = IntKind.wrap .i64 (v20 + 1) := ⟨_, rfl⟩
          replace H := H r36 hr75
          refine L_val (v := .int .i64 r36) (y_add (ev_tv rfl rfl) ev_c hr75) ?_
          refine L_val (v := .int .i64 r36) (y_assign (ev_tv rfl rfl)) ?_
          refine l_nil ?_
          refine then_norm ?_
          obtain ⟨m37, hm76, H⟩ := H
          exact ⟨_, rfl, (by repeat (first | exact agree_refl | exact hag53 | exact hag33 | refine agree_upd rfl ?_ | refine agree_via hag53 rfl ?_ | refine agree_via hag33 rfl ?_)), m37, hm76, _, rfl, H⟩
      · replace H := H.2 hb48
        have hq49 : Value.bool (x26) = Value.bool false := congrArg Value.bool hb48
        refine L_val (v := .bool true) (y_not_f (ev_tv rfl hq49)) ?_
        refine l_nil ?_
        refine then_norm ?_
        refine hK44 _ _ ?_
        clear hK44
        refine cond_t (ev_tv rfl rfl) ?_
        refine c_seq ?_
        intro K77 hK77
        refine c_region ?_
        refine L_val (v := .int .i64 0) (y_assign ev_c) ?_
        refine L_val (v := .int .i64 1) (y_assign ev_c) ?_
        refine l_nil ?_
        refine then_norm ?_
        refine hK77 _ _ ?_
        clear hK77
        refine c_ret ?_
        refine then_ret ?_
        refine block_ret ?_
        refine then_ret ?_
        refine then_ret ?_
        refine block_ret ?_
        refine then_ret ?_
        exact body_2 rfl (ev_tv rfl rfl) (ev_tv rfl rfl) H
    · replace H := H.2 hb40
      have hq41 : Value.bool (decide ((v20 : Int) < ((a_targets3l : Nat) : Int))) = Value.bool false := congrArg Value.bool (decide_eq_false hb40)
      refine cond_f (ev_tv rfl hq41) ?_
      refine c_exit ?_
      refine then_exit ?_
      refine then_exit ?_
      refine block_hit ?_
      refine then_norm ?_
      exact hK7 _ _ (by repeat (first | exact agree_refl | exact hag33 | refine agree_upd rfl ?_ | refine agree_via hag33 rfl ?_)) H
  · clear H
    intro f4 w4 hag5 HJ6
    have H := hJ3  w4 HJ6
    clear hJ3
    refine c_seq ?_
    intro K8 hK8
    refine D_start Try.mixed rfl [12, 14, 16, 17, 20] ?_
    refine start_keep fun hS => ?_
    refine D_pure (i := 0) (v := .pointer a_t1) rfl (by kernel_rfl) (W_none rfl) (fun _ => y_move (ev_tv rfl ((hag5 0 rfl).trans rfl))) hS ?_
    intro hS
    refine D_pure (i := 1) (v := .pointer a_t1) rfl (by kernel_rfl) (W_none rfl) (fun _ => y_move (ev_tv rfl ((hag5 0 rfl).trans rfl))) hS ?_
    intro hS
    obtain ⟨b5, o6, rfl, H⟩ := H
    refine D_pure (i := 2) (v := .pointer (some ⟨b5, o6, none⟩)) rfl (by kernel_rfl) (W_none rfl) (fun _ => y_nilCheck (ev_tv rfl rfl)) hS ?_
    intro hS
    refine D_pure (i := 3) (v := .pointer (some ⟨b5, o6 + 2, none⟩)) rfl (by kernel_rfl) (W_none rfl) (fun _ => Try.fa71_2 (ev_tv rfl rfl)) hS ?_
    intro hS
    refine D_pure (i := 5) (v := .pointer (some ⟨b5, o6, none⟩)) rfl (by kernel_rfl) (W_none rfl) (fun _ => y_move (ev_tv rfl ((hag5 0 rfl).trans rfl))) hS ?_
    intro hS
    refine D_pure (i := 6) (v := .pointer (some ⟨b5, o6, none⟩)) rfl (by kernel_rfl) (W_none rfl) (fun _ => y_nilCheck (ev_tv rfl rfl)) hS ?_
    intro hS
    refine D_pure (i := 7) (v := .pointer (some ⟨b5, o6 + 2, none⟩)) rfl (by kernel_rfl) (W_none rfl) (fun _ => Try.fa71_2 (ev_tv rfl rfl)) hS ?_
    intro hS
    refine D_pure (i := 11) (v := .int .i64 a_space2) rfl (by kernel_rfl) (W_none rfl) (fun _ => y_move (ev_tv rfl ((hag5 1 rfl).trans rfl))) hS ?_
    intro hS
    refine D_pure (i := 13) (v := .slice a_targets3 a_targets3l a_targets3c) rfl (by kernel_rfl) (W_none rfl) (fun _ => y_move (ev_tv rfl ((hag5 2 rfl).trans rfl))) hS ?_
    intro hS
    obtain ⟨x7, x7l, x7c, hc9, H⟩ := H
    refine D_read (i := 4) (v := .slice x7 x7l x7c) rfl (by kernel_rfl) (W_none rfl) (fun wx => World.cell? wx ⟨b5, o6 + 2, none⟩ = some (.slice x7 x7l x7c)) hc9 (fun _ hcx => y_load Try.underlying69 rfl (ev_tv rfl rfl) hcx) hS ?_
    intro hS
    obtain ⟨x8, x8l, x8c, hc10, H⟩ := H
    refine D_read (i := 8) (v := .slice x8 x8l x8c) rfl (by kernel_rfl) (W_none rfl) (fun wx => World.cell? wx ⟨b5, o6 + 2, none⟩ = some (.slice x8 x8l x8c)) hc10 (fun _ hcx => y_load Try.underlying69 rfl (ev_tv rfl rfl) hcx) hS ?_
    intro hS
    refine D_pure (i := 9) (v := .int .i64 ((x8l : Nat) : Int)) rfl (by kernel_rfl) (W_none rfl) (fun _ => y_len Try.underlying69 rfl (map_ev1 (ev_tv rfl rfl))) hS ?_
    intro hS
    obtain ⟨r9, hr11⟩ : ∃ r9 : Int, r9 = IntKind.wrap .i64 (((x8l : Nat) : Int) + 1) := ⟨_, rfl⟩
    replace H := H r9 hr11
    refine D_pure (i := 10) (v := .int .i64 r9) rfl (by kernel_rfl) (W_none rfl) (fun _ => y_add (ev_tv rfl rfl) ev_c hr11) hS ?_
    intro hS
    refine D_only (i := 12) (by kernel_rfl) rfl ?_
    obtain ⟨b10, hb12⟩ : ∃ b10 : Nat, b10 = World.heapSize (w4.drew) := ⟨_, rfl⟩
    obtain ⟨w11, hw13⟩ : ∃ w11 : World, w11 = World.alloc (w4.drew) (.cells #[] 3) := ⟨_, rfl⟩
    replace H := H b10 w11 hb12 hw13
    refine O_val (i := 12) (v := .slice (some ⟨b10, 0, none⟩) 0 0) rfl (W_none rfl) (y_buildSlice rfl hb12 hw13 (by kernel_rfl)) ?_
    obtain ⟨hs28, hs29, H⟩ := H
    refine and_keep (SS_on hs28 (SS_on hs29 SS_nil)) fun hS => ?_
    refine D_only (i := 14) (by kernel_rfl) rfl ?_
    obtain ⟨x13, x13l, x13c, w12, hc14, H⟩ := H
    refine O_val (i := 14) (v := .slice x13 x13l x13c) rfl (W_none rfl) (y_bi_append (map_ev2 (ev_tv rfl rfl) (ev_tv rfl rfl)) hc14) ?_
    obtain ⟨hs26, hs27, H⟩ := H
    refine and_keep (SS_on hs26 (SS_on hs27 SS_nil)) fun hS => ?_
    refine D_pure (i := 15) (v := .agg #[.int .i64 r9, .int .i64 a_space2, .slice x13 x13l x13c]) rfl (by kernel_rfl) (W_none rfl) (fun _ => y_build (parts_ev3 (ev_tv rfl rfl) (ev_tv rfl rfl) (ev_tv rfl rfl)) (by kernel_rfl)) hS ?_
    intro hS
    refine D_only (i := 16) (by kernel_rfl) rfl ?_
    obtain ⟨b14, hb15⟩ : ∃ b14 : Nat, b14 = World.heapSize w12 := ⟨_, rfl⟩
    obtain ⟨w15, hw16⟩ : ∃ w15 : World, w15 = World.alloc w12 (.cells #[.int .i64 r9, .int .i64 a_space2, .slice x13 x13l x13c] 84) := ⟨_, rfl⟩
    replace H := H b14 w15 hb15 hw16
    refine O_val (i := 16) (v := .slice (some ⟨b14, 0, none⟩) 1 1) rfl (W_none rfl) (y_buildSlice (parts_ev1 (ev_tv rfl rfl)) hb15 hw16 (by kernel_rfl)) ?_
    obtain ⟨hs24, hs25, H⟩ := H
    refine and_keep (SS_on hs24 (SS_on hs25 SS_nil)) fun hS => ?_
    refine D_only (i := 17) (by kernel_rfl) rfl ?_
    obtain ⟨x17, x17l, x17c, w16, hc17, H⟩ := H
    refine O_val (i := 17) (v := .slice x17 x17l x17c) rfl (W_none rfl) (y_bi_append (map_ev2 (ev_tv rfl rfl) (ev_tv rfl rfl)) hc17) ?_
    obtain ⟨hs23, H⟩ := H
    refine and_keep (SS_on hs23 (SS_off (by kernel_rfl) SS_nil)) fun hS => ?_
    refine D_pure (i := 18) (v := .pointer (some ⟨b5, o6, none⟩)) rfl (by kernel_rfl) (W_none rfl) (fun _ => y_nilCheck (ev_tv rfl rfl)) hS ?_
    intro hS
    refine D_pure (i := 19) (v := .pointer (some ⟨b5, o6 + 2, none⟩)) rfl (by kernel_rfl) (W_none rfl) (fun _ => Try.fa71_2 (ev_tv rfl rfl)) hS ?_
    intro hS
    refine D_only (i := 20) (by kernel_rfl) rfl ?_
    obtain ⟨hc18, hf19, H⟩ := H
    obtain ⟨w18, hw20⟩ : ∃ w18 : World, w18 = World.setCell w16 ⟨b5, o6 + 2, none⟩ (.slice x17 x17l x17c) := ⟨_, rfl⟩
    replace H := H w18 hw20
    refine O_skip (i := 20) rfl (W_none rfl) (y_store Try.type69 rfl rfl (ev_tv rfl rfl) (ev_tv rfl rfl) hc18 hf19 hw20) ?_
    refine and_keep (SS_off (by kernel_rfl) (SS_off (by kernel_rfl) SS_nil)) fun hS => ?_
    refine D_done (by kernel_rfl) ?_
    refine then_norm ?_
    refine hK8 _ _ ?_
    clear hK8
    refine c_seq ?_
    intro K21 hK21
    refine c_region ?_
    refine L_val (v := .pointer (some ⟨b5, o6, none⟩)) (y_move (ev_tv rfl ((hag5 0 rfl).trans rfl))) ?_
    refine L_val (v := .pointer (some ⟨b5, o6, none⟩)) (y_nilCheck (ev_tv rfl rfl)) ?_
    refine L_val (v := .pointer (some ⟨b5, o6 + 2, none⟩)) (Try.fa71_2 (ev_tv rfl rfl)) ?_
    obtain ⟨x19, x19l, x19c, hc22, H⟩ := H
    refine L_val (v := .slice x19 x19l x19c) (y_load Try.underlying69 rfl (ev_tv rfl rfl) hc22) ?_
    refine L_val (v := .int .i64 ((x19l : Nat) : Int)) (y_len Try.underlying69 rfl (map_ev1 (ev_tv rfl rfl))) ?_
    refine L_val (v := .int .i64 ((x19l : Nat) : Int)) (y_assign (ev_tv rfl rfl)) ?_
    refine L_val (v := .int .i64 0) (y_assign ev_c) ?_
    refine l_nil ?_
    refine then_norm ?_
    refine hK21 _ _ ?_
    clear hK21
    refine c_ret ?_
    exact body_2 rfl (ev_tv rfl rfl) (ev_tv rfl rfl) H

/-- (parapet/parapetref07.Tlb).Handle -/
def Vc29 (a_t1 : Option Addr) (a_h2 : Int) (w : World) (R : Ending → World → Prop) : Prop :=
  (∃ I5 : Nat → Int → Int → World → Prop, (∃ m, I5 m 0 0 w) ∧ ∀ (m5 : Nat) (v3 : Int) (v4 : Int) (w6 : World), I5 m5 v3 v4 w6 → (∃ (b7 o8 : Nat), a_t1 = some ⟨b7, o8, none⟩ ∧ (∃ x9 : Option Addr, ∃ x9l : Nat, ∃ x9c : Nat, World.cell? w6 ⟨b7, o8 + 2, none⟩ = some (.slice x9 x9l x9c) ∧ ((((v4 : Int) < ((x9l : Nat) : Int)) → (∃ x10 : Option Addr, ∃ x10l : Nat, ∃ x10c : Nat, World.cell? w6 ⟨b7, o8 + 2, none⟩ = some (.slice x10 x10l x10c) ∧ (∃ (b11 o12 : Nat), x10 = some ⟨b11, o12, none⟩ ∧ ((0 : Int) ≤ v4 ∧ v4 < ((x10l : Nat) : Int) ∧ (∃ x13 : Option Addr, ∃ x13l : Nat, ∃ x13c : Nat, World.cell? w6 ⟨b11, o12 + (v4 : Int).toNat * 3 + 2, none⟩ = some (.slice x13 x13l x13c) ∧ (Calls Try.prog 42 #[.slice x13 x13l x13c, .int .i64 a_h2] w6 fun e w15 => ∃ x14 : Bool, e = .returned (.bool x14) ∧ (((x14 = true) → (∀ r17 : Int, r17 = IntKind.wrap .i64 (v3 + 1) → (∃ x18 : Option Addr, ∃ x18l : Nat, ∃ x18c : Nat, World.cell? w15 ⟨b7, o8 + 2, none⟩ = some (.slice x18 x18l x18c) ∧ (∃ (b19 o20 : Nat), x18 = some ⟨b19, o20, none⟩ ∧ ((0 : Int) ≤ v4 ∧ v4 < ((x18l : Nat) : Int) ∧ (∃ x21 : Int, World.cell? w15 ⟨b19, o20 + (v4 : Int).toNat * 3 + 1, none⟩ = some (.int .i64 x21) ∧ (Calls Try.prog 27 #[.pointer (some ⟨b7, o8, none⟩), .int .i64 a_h2, .int .i64 x21] w15 fun e w23 => ∃ x22 : Int, e = .returned (.int .i64 x22) ∧ (∃ J35 : Option Addr → Nat → Nat → World → Prop, (∀ (v25 : Option Addr) (v25l : Nat) (v25c : Nat) (w26 : World), J35 v25 v25l v25c w26 → (∃ x27 : Option Addr, ∃ x27l : Nat, ∃ x27c : Nat, World.cell? w26 ⟨b7, o8 + 2, none⟩ = some (.slice x27 x27l x27c) ∧ (∃ (b28 o29 : Nat), x27 = some ⟨b28, o29, none⟩ ∧ ((0 : Int) ≤ v4 ∧ v4 < ((x27l : Nat) : Int) ∧ ((World.cell? w26 ⟨b28, o29 + (v4 : Int).toNat * 3 + 2, none⟩).isSome = true ∧ World.frozen? w26 ⟨b28, o29 + (v4 : Int).toNat * 3 + 2, none⟩ = false ∧ ∀ w30 : World, w30 = World.setCell w26 ⟨b28, o29 + (v4 : Int).toNat * 3 + 2, none⟩ (.slice v25 v25l v25c) → (∀ r31 : Int, r31 = IntKind.wrap .i64 (v4 + 1) → (∃ m32, m32 < m5 ∧ I5 m32 r17 r31 w30))))))) ∧ (∃ I51 : Nat → Option Addr → Nat → Nat → Int → World → Prop, (∃ m, I51 m none 0 0 0 w23) ∧ ∀ (m35 : Nat) (v33 : Option Addr) (v33l : Nat) (v33c : Nat) (v34 : Int) (w36 : World), I51 m35 v33 v33l v33c v34 w36 → (∃ x37 : Option Addr, ∃ x37l : Nat, ∃ x37c : Nat, World.cell? w36 ⟨b7, o8 + 2, none⟩ = some (.slice x37 x37l x37c) ∧ (∃ (b38 o39 : Nat), x37 = some ⟨b38, o39, none⟩ ∧ ((0 : Int) ≤ v4 ∧ v4 < ((x37l : Nat) : Int) ∧ (∃ x40 : Option Addr, ∃ x40l : Nat, ∃ x40c : Nat, World.cell? w36 ⟨b38, o39 + (v4 : Int).toNat * 3 + 2, none⟩ = some (.slice x40 x40l x40c) ∧ ((((v34 : Int) < ((x40l : Nat) : Int)) → (∃ x41 : Option Addr, ∃ x41l : Nat, ∃ x41c : Nat, World.cell? w36 ⟨b7, o8 + 2, none⟩ = some (.slice x41 x41l x41c) ∧ (∃ (b42 o43 : Nat), x41 = some ⟨b42, o43, none⟩ ∧ ((0 : Int) ≤ v4 ∧ v4 < ((x41l : Nat) : Int) ∧ (∃ x44 : Option Addr, ∃ x44l : Nat, ∃ x44c : Nat, World.cell? w36 ⟨b42, o43 + (v4 : Int).toNat * 3 + 2, none⟩ = some (.slice x44 x44l x44c) ∧ (∃ (b45 o46 : Nat), x44 = some ⟨b45, o46, none⟩ ∧ ((0 : Int) ≤ v34 ∧ v34 < ((x44l : Nat) : Int) ∧ (∃ x47 : Int, World.cell? w36 ⟨b45, o46 + (v34 : Int).toNat, none⟩ = some (.int .i64 x47) ∧ (((¬ ((x47 : Int) = a_h2)) → (∃ x48 : Option Addr, ∃ x48l : Nat, ∃ x48c : Nat, World.cell? w36 ⟨b7, o8 + 2, none⟩ = some (.slice x48 x48l x48c) ∧ (∃ (b49 o50 : Nat), x48 = some ⟨b49, o50, none⟩ ∧ ((0 : Int) ≤ v4 ∧ v4 < ((x48l : Nat) : Int) ∧ (∃ x51 : Option Addr, ∃ x51l : Nat, ∃ x51c : Nat, World.cell? w36 ⟨b49, o50 + (v4 : Int).toNat * 3 + 2, none⟩ = some (.slice x51 x51l x51c) ∧ (∃ (b52 o53 : Nat), x51 = some ⟨b52, o53, none⟩ ∧ ((0 : Int) ≤ v34 ∧ v34 < ((x51l : Nat) : Int) ∧ (∃ x54 : Int, World.cell? w36 ⟨b52, o53 + (v34 : Int).toNat, none⟩ = some (.int .i64 x54) ∧ (∀ (b55 : Nat) (w56 : World), b55 = World.heapSize w36 → w56 = World.alloc w36 (.cells #[.int .i64 x54] 3) → (∃ x58 : Option Addr, ∃ x58l : Nat, ∃ x58c : Nat, ∃ w57 : World, (Builtin.append_ #[23, 23] 23 #[.slice v33 v33l v33c, .slice (some ⟨b55, 0, none⟩) 1 1]).run Try.prog w56 = .ok (.slice x58 x58l x58c) w57 ∧ (∀ r59 : Int, r59 = IntKind.wrap .i64 (v34 + 1) → (∃ m60, m60 < m35 ∧ I51 m60 x58 x58l x58c r59 w57)))))))))))) ∧ (((x47 : Int) = a_h2) → (∀ r61 : Int, r61 = IntKind.wrap .i64 (v34 + 1) → (∃ m62, m62 < m35 ∧ I51 m62 v33 v33l v33c r61 w36)))))))))))) ∧ ((¬ ((v34 : Int) < ((x40l : Nat) : Int))) → J35 v33 v33l v33c w36))))))))))))))) ∧ ((x14 = false) → (∀ r63 : Int, r63 = IntKind.wrap .i64 (v4 + 1) → (∃ m64, m64 < m5 ∧ I5 m64 v3 r63 w15)))))))))) ∧ ((¬ ((v4 : Int) < ((x9l : Nat) : Int))) → R (.returned (.int .i64 v3)) w6)))))

theorem vc29 {a_t1 : Option Addr} {a_h2 : Int} {w : World} {R : Ending → World → Prop} (H : Vc29 a_t1 a_h2 w R) : Calls Try.prog 29 #[.pointer a_t1, .int .i64 a_h2] w R := by
  unfold Vc29 at H
  refine calls_start [.pointer a_t1, .int .i64 a_h2] Try.func29 rfl Try.ntmps29 rfl ?_
  refine c_seq ?_
  intro K1 hK1
  refine c_region ?_
  refine L_val (v := .int .i64 0) (y_assign ev_c) ?_
  refine l_nil ?_
  refine then_norm ?_
  refine hK1 _ _ ?_
  clear hK1
  refine c_seq ?_
  intro K2 hK2
  refine c_region ?_
  refine L_val (v := .int .i64 0) (y_assign ev_c) ?_
  refine l_nil ?_
  refine then_norm ?_
  refine hK2 _ _ ?_
  clear hK2
  refine c_seq ?_
  intro K3 hK3
  refine c_seq ?_
  intro K4 hK4
  refine c_region ?_
  refine L_val (v := .int .i64 0) (y_assign ev_c) ?_
  refine l_nil ?_
  refine then_norm ?_
  refine hK4 _ _ ?_
  clear hK4
  refine c_block ?_
  obtain ⟨I5, ⟨m9, HI10⟩, H⟩ := H
  refine loop_fr ([(5, 89)]) (fun m ff ww => ∃ (v3 : Int) (v4 : Int), ff 5 = (.int .i64 v3 : Value) ∧ ff 6 = (.int .i64 v4 : Value) ∧ I5 m v3 v4 ww) m9 ⟨0, 0, rfl, rfl, HI10⟩ ?_
  rintro m5 f6 w6 hag7 ⟨v3, v4, hs11, hs12, HI8⟩
  replace H := H m5 v3 v4 w6 HI8
  refine c_seq ?_
  intro K13 hK13
  refine c_seq ?_
  intro K14 hK14
  refine c_region ?_
  refine L_val (v := .int .i64 v4) (y_move (ev_tv rfl hs12)) ?_
  refine L_val (v := .pointer a_t1) (y_move (ev_tv rfl ((hag7 0 rfl).trans rfl))) ?_
  obtain ⟨b7, o8, rfl, H⟩ := H
  refine L_val (v := .pointer (some ⟨b7, o8, none⟩)) (y_nilCheck (ev_tv rfl rfl)) ?_
  refine L_val (v := .pointer (some ⟨b7, o8 + 2, none⟩)) (Try.fa71_2 (ev_tv rfl rfl)) ?_
  obtain ⟨x9, x9l, x9c, hc15, H⟩ := H
  refine L_val (v := .slice x9 x9l x9c) (y_load Try.underlying69 rfl (ev_tv rfl rfl) hc15) ?_
  refine L_val (v := .int .i64 ((x9l : Nat) : Int)) (y_len Try.underlying69 rfl (map_ev1 (ev_tv rfl rfl))) ?_
  refine L_val (v := .bool (decide ((v4 : Int) < ((x9l : Nat) : Int)))) (y_lss (ev_tv rfl rfl) (ev_tv rfl rfl)) ?_
  refine l_nil ?_
  refine then_norm ?_
  refine hK14 _ _ ?_
  clear hK14
  rcases (Decidable.em ((v4 : Int) < ((x9l : Nat) : Int))) with hb16 | hb16
  · replace H := H.1 hb16
    have hq17 : Value.bool (decide ((v4 : Int) < ((x9l : Nat) : Int))) = Value.bool true := congrArg Value.bool (decide_eq_true hb16)
    refine cond_t (ev_tv rfl hq17) ?_
    refine c_skip ?_
    refine then_norm ?_
    refine hK13 _ _ ?_
    clear hK13
    refine c_seq ?_
    intro K18 hK18
    refine c_block ?_
    refine c_seq ?_
    intro K19 hK19
    refine c_seq ?_
    intro K20 hK20
    refine c_region ?_
    refine L_val (v := .pointer (some ⟨b7, o8, none⟩)) (y_move (ev_tv rfl ((hag7 0 rfl).trans rfl))) ?_
    refine L_val (v := .pointer (some ⟨b7, o8, none⟩)) (y_nilCheck (ev_tv rfl rfl)) ?_
    refine L_val (v := .pointer (some ⟨b7, o8 + 2, none⟩)) (Try.fa71_2 (ev_tv rfl rfl)) ?_
    obtain ⟨x10, x10l, x10c, hc21, H⟩ := H
    refine L_val (v := .slice x10 x10l x10c) (y_load Try.underlying69 rfl (ev_tv rfl rfl) hc21) ?_
    refine L_val (v := .int .i64 v4) (y_move (ev_tv rfl hs12)) ?_
    obtain ⟨b11, o12, rfl, H⟩ := H
    obtain ⟨hi22, hi23, H⟩ := H
    refine L_val (v := .pointer (some ⟨b11, o12 + (v4 : Int).toNat * 3, none⟩)) (y_ix Try.underlying69 Try.type84 rfl (ev_tv rfl rfl) (ev_tv rfl rfl) hi22 hi23) ?_
    refine L_val (v := .pointer (some ⟨b11, o12 + (v4 : Int).toNat * 3 + 2, none⟩)) (Try.fa84_2 (ev_tv rfl rfl)) ?_
    obtain ⟨x13, x13l, x13c, hc24, H⟩ := H
    refine L_val (v := .slice x13 x13l x13c) (y_load Try.underlying23 rfl (ev_tv rfl rfl) hc24) ?_
    refine L_val (v := .int .i64 a_h2) (y_move (ev_tv rfl ((hag7 1 rfl).trans rfl))) ?_
    refine L_call (y_call Try.call42 (map_ev2 (ev_tv rfl rfl) (ev_tv rfl rfl)) ev_f) (Calls.mono H ?_)
    clear H
    rintro _ w15 ⟨x14, rfl, H⟩
    refine ⟨_, rfl, ?_⟩
    rcases Bool.eq_false_or_eq_true x14 with hb25 | hb25
    · replace H := H.1 hb25
      have hq26 : Value.bool (x14) = Value.bool true := congrArg Value.bool hb25
      refine L_val (v := .bool false) (y_not_t (ev_tv rfl hq26)) ?_
      refine l_nil ?_
      refine then_norm ?_
      refine hK20 _ _ ?_
      clear hK20
      refine cond_f (ev_tv rfl rfl) ?_
      refine c_skip ?_
      refine then_norm ?_
      refine hK19 _ _ ?_
      clear hK19
      refine c_seq ?_
      intro K27 hK27
      refine c_region ?_
      refine L_val (v := .int .i64 v3) (y_move (ev_tv rfl hs11)) ?_
      obtain ⟨r17, hr28⟩ : ∃ r17 : Int, r17 = IntKind.wrap .i64 (v3 + 1) := ⟨_, rfl⟩
      replace H := H r17 hr28
      refine L_val (v := .int .i64 r17) (y_add (ev_tv rfl rfl) ev_c hr28) ?_
      refine L_val (v := .int .i64 r17) (y_assign (ev_tv rfl rfl)) ?_
      refine l_nil ?_
      refine then_norm ?_
      refine hK27 _ _ ?_
      clear hK27
      refine c_seq ?_
      intro K29 hK29
      refine c_region ?_
      refine L_val (v := .pointer (some ⟨b7, o8, none⟩)) (y_move (ev_tv rfl ((hag7 0 rfl).trans rfl))) ?_
      refine L_val (v := .int .i64 a_h2) (y_move (ev_tv rfl ((hag7 1 rfl).trans rfl))) ?_
      refine L_val (v := .pointer (some ⟨b7, o8, none⟩)) (y_move (ev_tv rfl ((hag7 0 rfl).trans rfl))) ?_
      refine L_val (v := .pointer (some ⟨b7, o8, none⟩)) (y_nilCheck (ev_tv rfl rfl)) ?_
      refine L_val (v := .pointer (some ⟨b7, o8 + 2, none⟩)) (Try.fa71_2 (ev_tv rfl rfl)) ?_
      obtain ⟨x18, x18l, x18c, hc30, H⟩ := H
      refine L_val (v := .slice x18 x18l x18c) (y_load Try.underlying69 rfl (ev_tv rfl rfl) hc30) ?_
      refine L_val (v := .int .i64 v4) (y_move (ev_tv rfl hs12)) ?_
      obtain ⟨b19, o20, rfl, H⟩ := H
      obtain ⟨hi31, hi32, H⟩ := H
      refine L_val (v := .pointer (some ⟨b19, o20 + (v4 : Int).toNat * 3, none⟩)) (y_ix Try.underlying69 Try.type84 rfl (ev_tv rfl rfl) (ev_tv rfl rfl) hi31 hi32) ?_
      refine L_val (v := .pointer (some ⟨b19, o20 + (v4 : Int).toNat * 3 + 1, none⟩)) (Try.fa84_1 (ev_tv rfl rfl)) ?_
      obtain ⟨x21, hc33, H⟩ := H
      refine L_val (v := .int .i64 x21) (y_load Try.underlying3 rfl (ev_tv rfl rfl) hc33) ?_
      refine L_call (y_call Try.call27 (map_ev3 (ev_tv rfl rfl) (ev_tv rfl rfl) (ev_tv rfl rfl)) ev_f) (Calls.mono H ?_)
      clear H
      rintro _ w23 ⟨x22, rfl, H⟩
      refine ⟨_, rfl, ?_⟩
      refine l_nil ?_
      refine then_norm ?_
      refine hK29 _ _ ?_
      clear hK29
      refine c_seq ?_
      intro K34 hK34
      refine c_region ?_
      refine L_val (v := .slice none 0 0) (y_assign ev_c) ?_
      refine l_nil ?_
      refine then_norm ?_
      refine hK34 _ _ ?_
      clear hK34
      obtain ⟨J35, hJ36, H⟩ := H
      refine c_seqJ [(7, 8), (42, 81)] (fun ff ww => ∃ (v25 : Option Addr) (v25l : Nat) (v25c : Nat), ff 7 = (.slice v25 v25l v25c : Value) ∧ J35 v25 v25l v25c ww) ?_ ?_
      · clear hJ36
        intro K40 hK40
        refine c_seq ?_
        intro K50 hK50
        refine c_region ?_
        refine L_val (v := .int .i64 0) (y_assign ev_c) ?_
        refine l_nil ?_
        refine then_norm ?_
        refine hK50 _ _ ?_
        clear hK50
        refine c_block ?_
        obtain ⟨I51, ⟨m55, HI56⟩, H⟩ := H
        refine loop_fr ([(7, 8), (42, 81)]) (fun m ff ww => ∃ (v33 : Option Addr) (v33l : Nat) (v33c : Nat) (v34 : Int), ff 7 = (.slice v33 v33l v33c : Value) ∧ ff 8 = (.int .i64 v34 : Value) ∧ I51 m v33 v33l v33c v34 ww) m55 ⟨none, 0, 0, 0, rfl, rfl, HI56⟩ ?_
        rintro m35 f52 w36 hag53 ⟨v33, v33l, v33c, v34, hs57, hs58, HI54⟩
        replace H := H m35 v33 v33l v33c v34 w36 HI54
        refine c_seq ?_
        intro K59 hK59
        refine c_seq ?_
        intro K60 hK60
        refine c_region ?_
        refine L_val (v := .int .i64 v34) (y_move (ev_tv rfl hs58)) ?_
        refine L_val (v := .pointer (some ⟨b7, o8, none⟩)) (y_move (ev_tv rfl ((hag53 0 rfl).trans ((hag7 0 rfl).trans rfl)))) ?_
        refine L_val (v := .pointer (some ⟨b7, o8, none⟩)) (y_nilCheck (ev_tv rfl rfl)) ?_
        refine L_val (v := .pointer (some ⟨b7, o8 + 2, none⟩)) (Try.fa71_2 (ev_tv rfl rfl)) ?_
        obtain ⟨x37, x37l, x37c, hc61, H⟩ := H
        refine L_val (v := .slice x37 x37l x37c) (y_load Try.underlying69 rfl (ev_tv rfl rfl) hc61) ?_
        refine L_val (v := .int .i64 v4) (y_move (ev_tv rfl ((hag53 6 rfl).trans hs12))) ?_
        obtain ⟨b38, o39, rfl, H⟩ := H
        obtain ⟨hi62, hi63, H⟩ := H
        refine L_val (v := .pointer (some ⟨b38, o39 + (v4 : Int).toNat * 3, none⟩)) (y_ix Try.underlying69 Try.type84 rfl (ev_tv rfl rfl) (ev_tv rfl rfl) hi62 hi63) ?_
        refine L_val (v := .pointer (some ⟨b38, o39 + (v4 : Int).toNat * 3 + 2, none⟩)) (Try.fa84_2 (ev_tv rfl rfl)) ?_
        obtain ⟨x40, x40l, x40c, hc64, H⟩ := H
        refine L_val (v := .slice x40 x40l x40c) (y_load Try.underlying23 rfl (ev_tv rfl rfl) hc64) ?_
        refine L_val (v := .int .i64 ((x40l : Nat) : Int)) (y_len Try.underlying23 rfl (map_ev1 (ev_tv rfl rfl))) ?_
        refine L_val (v := .bool (decide ((v34 : Int) < ((x40l : Nat) : Int)))) (y_lss (ev_tv rfl rfl) (ev_tv rfl rfl)) ?_
        refine l_nil ?_
        refine then_norm ?_
        refine hK60 _ _ ?_
        clear hK60
        rcases (Decidable.em ((v34 : Int) < ((x40l : Nat) : Int))) with hb65 | hb65
        · replace H := H.1 hb65
          have hq66 : Value.bool (decide ((v34 : Int) < ((x40l : Nat) : Int))) = Value.bool true := congrArg Value.bool (decide_eq_true hb65)
          refine cond_t (ev_tv rfl hq66) ?_
          refine c_skip ?_
          refine then_norm ?_
          refine hK59 _ _ ?_
          clear hK59
          refine c_seq ?_
          intro K67 hK67
          refine c_block ?_
          refine c_seq ?_
          intro K68 hK68
          refine c_region ?_
          refine L_val (v := .pointer (some ⟨b7, o8, none⟩)) (y_move (ev_tv rfl ((hag53 0 rfl).trans ((hag7 0 rfl).trans rfl)))) ?_
          refine L_val (v := .pointer (some ⟨b7, o8, none⟩)) (y_nilCheck (ev_tv rfl rfl)) ?_
          refine L_val (v := .pointer (some ⟨b7, o8 + 2, none⟩)) (Try.fa71_2 (ev_tv rfl rfl)) ?_
          obtain ⟨x41, x41l, x41c, hc69, H⟩ := H
          refine L_val (v := .slice x41 x41l x41c) (y_load Try.underlying69 rfl (ev_tv rfl rfl) hc69) ?_
          refine L_val (v := .int .i64 v4) (y_move (ev_tv rfl ((hag53 6 rfl).trans hs12))) ?_
          obtain ⟨b42, o43, rfl, H⟩ := H
          obtain ⟨hi70, hi71, H⟩ := H
          refine L_val (v := .pointer (some ⟨b42, o43 + (v4 : Int).toNat * 3, none⟩)) (y_ix Try.underlying69 Try.type84 rfl (ev_tv rfl rfl) (ev_tv rfl rfl) hi70 hi71) ?_
          refine L_val (v := .pointer (some ⟨b42, o43 + (v4 : Int).toNat * 3 + 2, none⟩)) (Try.fa84_2 (ev_tv rfl rfl)) ?_
          obtain ⟨x44, x44l, x44c, hc72, H⟩ := H
          refine L_val (v := .slice x44 x44l x44c) (y_load Try.underlying23 rfl (ev_tv rfl rfl) hc72) ?_
          refine L_val (v := .int .i64 v34) (y_move (ev_tv rfl hs58)) ?_
          obtain ⟨b45, o46, rfl, H⟩ := H
          obtain ⟨hi73, hi74, H⟩ := H
          refine L_val (v := .pointer (some ⟨b45, o46 + (v34 : Int).toNat, none⟩)) (y_ix1 Try.underlying23 Try.type3 rfl (ev_tv rfl rfl) (ev_tv rfl rfl) hi73 hi74) ?_
          obtain ⟨x47, hc75, H⟩ := H
          refine L_val (v := .int .i64 x47) (y_load Try.underlying3 rfl (ev_tv rfl rfl) hc75) ?_
          refine L_val (v := .int .i64 a_h2) (y_move (ev_tv rfl ((hag53 1 rfl).trans ((hag7 1 rfl).trans rfl)))) ?_
          refine L_val (v := .bool (!decide ((x47 : Int) = a_h2))) (y_ine (ev_tv rfl rfl) (ev_tv rfl rfl)) ?_
          refine l_nil ?_
          refine then_norm ?_
          refine hK68 _ _ ?_
          clear hK68
          rcases (Decidable.em ((x47 : Int) = a_h2)).symm with hb76 | hb76
          · replace H := H.1 hb76
            have hq77 : Value.bool (!decide ((x47 : Int) = a_h2)) = Value.bool true := congrArg Value.bool (ndec_t hb76)
            refine cond_t (ev_tv rfl hq77) ?_
            refine c_region ?_
            refine L_val (v := .slice v33 v33l v33c) (y_move (ev_tv rfl hs57)) ?_
            refine L_val (v := .pointer (some ⟨b7, o8, none⟩)) (y_move (ev_tv rfl ((hag53 0 rfl).trans ((hag7 0 rfl).trans rfl)))) ?_
            refine L_val (v := .pointer (some ⟨b7, o8, none⟩)) (y_nilCheck (ev_tv rfl rfl)) ?_
            refine L_val (v := .pointer (some ⟨b7, o8 + 2, none⟩)) (Try.fa71_2 (ev_tv rfl rfl)) ?_
            obtain ⟨x48, x48l, x48c, hc78, H⟩ := H
            refine L_val (v := .slice x48 x48l x48c) (y_load Try.underlying69 rfl (ev_tv rfl rfl) hc78) ?_
            refine L_val (v := .int .i64 v4) (y_move (ev_tv rfl ((hag53 6 rfl).trans hs12))) ?_
            obtain ⟨b49, o50, rfl, H⟩ := H
            obtain ⟨hi79, hi80, H⟩ := H
            refine L_val (v := .pointer (some ⟨b49, o50 + (v4 : Int).toNat * 3, none⟩)) (y_ix Try.underlying69 Try.type84 rfl (ev_tv rfl rfl) (ev_tv rfl rfl) hi79 hi80) ?_
            refine L_val (v := .pointer (some ⟨b49, o50 + (v4 : Int).toNat * 3 + 2, none⟩)) (Try.fa84_2 (ev_tv rfl rfl)) ?_
            obtain ⟨x51, x51l, x51c, hc81, H⟩ := H
            refine L_val (v := .slice x51 x51l x51c) (y_load Try.underlying23 rfl (ev_tv rfl rfl) hc81) ?_
            refine L_val (v := .int .i64 v34) (y_move (ev_tv rfl hs58)) ?_
            obtain ⟨b52, o53, rfl, H⟩ := H
            obtain ⟨hi82, hi83, H⟩ := H
            refine L_val (v := .pointer (some ⟨b52, o53 + (v34 : Int).toNat, none⟩)) (y_ix1 Try.underlying23 Try.type3 rfl (ev_tv rfl rfl) (ev_tv rfl rfl) hi82 hi83) ?_
            obtain ⟨x54, hc84, H⟩ := H
            refine L_val (v := .int .i64 x54) (y_load Try.underlying3 rfl (ev_tv rfl rfl) hc84) ?_
            obtain ⟨b55, hb85⟩ : ∃ b55 : Nat, b55 = World.heapSize w36 := ⟨_, rfl⟩
            obtain ⟨w56, hw86⟩ : ∃ w56 : World, w56 = World.alloc w36 (.cells #[.int .i64 x54] 3) := ⟨_, rfl⟩
            replace H := H b55 w56 hb85 hw86
            refine L_val (v := .slice (some ⟨b55, 0, none⟩) 1 1) (y_buildSlice (parts_ev1 (ev_tv rfl rfl)) hb85 hw86 (by kernel_rfl)) ?_
            obtain ⟨x58, x58l, x58c, w57, hc87, H⟩ := H
            refine L_val (v := .slice x58 x58l x58c) (y_bi_append (map_ev2 (ev_tv rfl rfl) (ev_tv rfl rfl)) hc87) ?_
            refine L_val (v := .slice x58 x58l x58c) (y_assign (ev_tv rfl rfl)) ?_
            refine l_nil ?_
            refine block_norm ?_
            refine then_norm ?_
            refine hK67 _ _ ?_
            clear hK67
            refine c_region ?_
            refine L_val (v := .int .i64 v34) (y_move (ev_tv rfl hs58)) ?_
            obtain ⟨r59, hr88⟩ : ∃ r59 : Int, r59 = IntKind.wrap .i64 (v34 + 1) := ⟨_, rfl⟩
            replace H := H r59 hr88
            refine L_val (v := .int .i64 r59) (y_add (ev_tv rfl rfl) ev_c hr88) ?_
            refine L_val (v := .int .i64 r59) (y_assign (ev_tv rfl rfl)) ?_
            refine l_nil ?_
            refine then_norm ?_
            obtain ⟨m60, hm89, H⟩ := H
            exact ⟨_, rfl, (by repeat (first | exact agree_refl | exact hag53 | exact hag7 | refine agree_upd rfl ?_ | refine agree_via hag53 rfl ?_ | refine agree_via hag7 rfl ?_)), m60, hm89, _, _, _, _, rfl, rfl, H⟩
          · replace H := H.2 hb76
            have hq77 : Value.bool (!decide ((x47 : Int) = a_h2)) = Value.bool false := congrArg Value.bool (ndec_f hb76)
            refine cond_f (ev_tv rfl hq77) ?_
            refine c_skip ?_
            refine block_norm ?_
            refine then_norm ?_
            refine hK67 _ _ ?_
            clear hK67
            refine c_region ?_
            refine L_val (v := .int .i64 v34) (y_move (ev_tv rfl hs58)) ?_
            obtain ⟨r61, hr90⟩ : ∃ r61 : Int, r61 = IntKind.wrap .i64 (v34 + 1) := ⟨_, rfl⟩
            replace H := H r61 hr90
            refine L_val (v := .int .i64 r61) (y_add (ev_tv rfl rfl) ev_c hr90) ?_
            refine L_val (v := .int .i64 r61) (y_assign (ev_tv rfl rfl)) ?_
            refine l_nil ?_
            refine then_norm ?_
            obtain ⟨m62, hm91, H⟩ := H
            exact ⟨_, rfl, (by repeat (first | exact agree_refl | exact hag53 | exact hag7 | refine agree_upd rfl ?_ | refine agree_via hag53 rfl ?_ | refine agree_via hag7 rfl ?_)), m62, hm91, _, _, _, _, hs57, rfl, H⟩
        · replace H := H.2 hb65
          have hq66 : Value.bool (decide ((v34 : Int) < ((x40l : Nat) : Int))) = Value.bool false := congrArg Value.bool (decide_eq_false hb65)
          refine cond_f (ev_tv rfl hq66) ?_
          refine c_exit ?_
          refine then_exit ?_
          refine then_exit ?_
          refine block_hit ?_
          refine then_norm ?_
          exact hK40 _ _ (by repeat (first | exact agree_refl | exact hag53 | exact hag7 | refine agree_upd rfl ?_ | refine agree_via hag53 rfl ?_ | refine agree_via hag7 rfl ?_)) ⟨_, _, _, hs57, H⟩
      · clear H
        rintro f37 w26 hag38 ⟨v25, v25l, v25c, hs41, HJ39⟩
        have H := hJ36 v25 v25l v25c w26 HJ39
        clear hJ36
        refine c_region ?_
        refine L_val (v := .pointer (some ⟨b7, o8, none⟩)) (y_move (ev_tv rfl ((hag38 0 rfl).trans ((hag7 0 rfl).trans rfl)))) ?_
        refine L_val (v := .pointer (some ⟨b7, o8, none⟩)) (y_nilCheck (ev_tv rfl rfl)) ?_
        refine L_val (v := .pointer (some ⟨b7, o8 + 2, none⟩)) (Try.fa71_2 (ev_tv rfl rfl)) ?_
        obtain ⟨x27, x27l, x27c, hc42, H⟩ := H
        refine L_val (v := .slice x27 x27l x27c) (y_load Try.underlying69 rfl (ev_tv rfl rfl) hc42) ?_
        refine L_val (v := .int .i64 v4) (y_move (ev_tv rfl ((hag38 6 rfl).trans hs12))) ?_
        refine L_val (v := .slice v25 v25l v25c) (y_move (ev_tv rfl hs41)) ?_
        obtain ⟨b28, o29, rfl, H⟩ := H
        obtain ⟨hi43, hi44, H⟩ := H
        refine L_val (v := .pointer (some ⟨b28, o29 + (v4 : Int).toNat * 3, none⟩)) (y_ix Try.underlying69 Try.type84 rfl (ev_tv rfl rfl) (ev_tv rfl rfl) hi43 hi44) ?_
        refine L_val (v := .pointer (some ⟨b28, o29 + (v4 : Int).toNat * 3 + 2, none⟩)) (Try.fa84_2 (ev_tv rfl rfl)) ?_
        obtain ⟨hc45, hf46, H⟩ := H
        obtain ⟨w30, hw47⟩ : ∃ w30 : World, w30 = World.setCell w26 ⟨b28, o29 + (v4 : Int).toNat * 3 + 2, none⟩ (.slice v25 v25l v25c) := ⟨_, rfl⟩
        replace H := H w30 hw47
        refine L_skip (y_store Try.type23 rfl rfl (ev_tv rfl rfl) (ev_tv rfl rfl) hc45 hf46 hw47) ?_
        refine l_nil ?_
        refine block_norm ?_
        refine then_norm ?_
        refine hK18 _ _ ?_
        clear hK18
        refine c_region ?_
        refine L_val (v := .int .i64 v4) (y_move (ev_tv rfl ((hag38 6 rfl).trans hs12))) ?_
        obtain ⟨r31, hr48⟩ : ∃ r31 : Int, r31 = IntKind.wrap .i64 (v4 + 1) := ⟨_, rfl⟩
        replace H := H r31 hr48
        refine L_val (v := .int .i64 r31) (y_add (ev_tv rfl rfl) ev_c hr48) ?_
        refine L_val (v := .int .i64 r31) (y_assign (ev_tv rfl rfl)) ?_
        refine l_nil ?_
        refine then_norm ?_
        obtain ⟨m32, hm49, H⟩ := H
        exact ⟨_, rfl, (by repeat (first | exact agree_refl | exact hag38 | exact hag7 | refine agree_upd rfl ?_ | refine agree_via hag38 rfl ?_ | refine agree_via hag7 rfl ?_)), m32, hm49, _, _, ((hag38 5 rfl).trans rfl), rfl, H⟩
    · replace H := H.2 hb25
      have hq26 : Value.bool (x14) = Value.bool false := congrArg Value.bool hb25
      refine L_val (v := .bool true) (y_not_f (ev_tv rfl hq26)) ?_
      refine l_nil ?_
      refine then_norm ?_
      refine hK20 _ _ ?_
      clear hK20
      refine cond_t (ev_tv rfl rfl) ?_
      refine c_exit ?_
      refine then_exit ?_
      refine block_hit ?_
      refine then_norm ?_
      refine hK18 _ _ ?_
      clear hK18
      refine c_region ?_
      refine L_val (v := .int .i64 v4) (y_move (ev_tv rfl hs12)) ?_
      obtain ⟨r63, hr92⟩ : ∃ r63 : Int, r63 = IntKind.wrap .i64 (v4 + 1) := ⟨_, rfl⟩
      replace H := H r63 hr92
      refine L_val (v := .int .i64 r63) (y_add (ev_tv rfl rfl) ev_c hr92) ?_
      refine L_val (v := .int .i64 r63) (y_assign (ev_tv rfl rfl)) ?_
      refine l_nil ?_
      refine then_norm ?_
      obtain ⟨m64, hm93, H⟩ := H
      exact ⟨_, rfl, (by repeat (first | exact agree_refl | exact hag7 | refine agree_upd rfl ?_ | refine agree_via hag7 rfl ?_)), m64, hm93, _, _, hs11, rfl, H⟩
  · replace H := H.2 hb16
    have hq17 : Value.bool (decide ((v4 : Int) < ((x9l : Nat) : Int))) = Value.bool false := congrArg Value.bool (decide_eq_false hb16)
    refine cond_f (ev_tv rfl hq17) ?_
    refine c_exit ?_
    refine then_exit ?_
    refine then_exit ?_
    refine block_hit ?_
    refine then_norm ?_
    refine hK3 _ _ ?_
    clear hK3
    refine c_seq ?_
    intro K94 hK94
    refine c_region ?_
    refine L_val (v := .int .i64 v3) (y_move (ev_tv rfl hs11)) ?_
    refine L_val (v := .int .i64 v3) (y_assign (ev_tv rfl rfl)) ?_
    refine l_nil ?_
    refine then_norm ?_
    refine hK94 _ _ ?_
    clear hK94
    refine c_ret ?_
    exact body_1 rfl (ev_tv rfl rfl) H

/-- (parapet/parapetref07.Tlb).Over -/
def Vc30 (a_t1 : Option Addr) (a_id2 : Int) (w : World) (R : Ending → World → Prop) : Prop :=
  ((((1 : Int) ≤ a_id2) → (∃ (b3 o4 : Nat), a_t1 = some ⟨b3, o4, none⟩ ∧ (∃ x5 : Option Addr, ∃ x5l : Nat, ∃ x5c : Nat, World.cell? w ⟨b3, o4 + 2, none⟩ = some (.slice x5 x5l x5c) ∧ ((((a_id2 : Int) ≤ ((x5l : Nat) : Int)) → (∃ x6 : Option Addr, ∃ x6l : Nat, ∃ x6c : Nat, World.cell? w ⟨b3, o4 + 2, none⟩ = some (.slice x6 x6l x6c) ∧ (∀ r7 : Int, r7 = IntKind.wrap .i64 (a_id2 - 1) → (∃ (b8 o9 : Nat), x6 = some ⟨b8, o9, none⟩ ∧ ((0 : Int) ≤ r7 ∧ r7 < ((x6l : Nat) : Int) ∧ (∃ x10 : Option Addr, ∃ x10l : Nat, ∃ x10c : Nat, World.cell? w ⟨b8, o9 + (r7 : Int).toNat * 3 + 2, none⟩ = some (.slice x10 x10l x10c) ∧ R (.returned (.bool (decide ((((x10l : Nat) : Int) : Int) = 0)))) w)))))) ∧ ((¬ ((a_id2 : Int) ≤ ((x5l : Nat) : Int))) → R (.returned (.bool false)) w))))) ∧ ((¬ ((1 : Int) ≤ a_id2)) → R (.returned (.bool false)) w))

theorem vc30 {a_t1 : Option Addr} {a_id2 : Int} {w : World} {R : Ending → World → Prop} (H : Vc30 a_t1 a_id2 w R) : Calls Try.prog 30 #[.pointer a_t1, .int .i64 a_id2] w R := by
  unfold Vc30 at H
  refine calls_start [.pointer a_t1, .int .i64 a_id2] Try.func30 rfl Try.ntmps30 rfl ?_
  refine c_seq ?_
  intro K1 hK1
  refine c_region ?_
  refine L_val (v := .bool false) (y_assign ev_c) ?_
  refine l_nil ?_
  refine then_norm ?_
  refine hK1 _ _ ?_
  clear hK1
  refine c_seq ?_
  intro K2 hK2
  refine c_region ?_
  refine L_val (v := .int .i64 a_id2) (y_move (ev_tv rfl rfl)) ?_
  refine L_val (v := .bool (decide ((1 : Int) ≤ a_id2))) (y_geq (ev_tv rfl rfl) ev_c) ?_
  refine L_val (v := .bool (decide ((1 : Int) ≤ a_id2))) (y_move (ev_tv rfl rfl)) ?_
  rcases (Decidable.em ((1 : Int) ≤ a_id2)) with hb3 | hb3
  · replace H := H.1 hb3
    have hq4 : Value.bool (decide ((1 : Int) ≤ a_id2)) = Value.bool true := congrArg Value.bool (decide_eq_true hb3)
    refine G_val (dj := 7) rfl rfl hq4 (v := .int .i64 a_id2) (y_move (ev_tv rfl rfl)) ?_
    refine G_val (dj := 7) rfl rfl hq4 (v := .pointer a_t1) (y_move (ev_tv rfl rfl)) ?_
    obtain ⟨b3, o4, rfl, H⟩ := H
    refine G_val (dj := 7) rfl rfl hq4 (v := .pointer (some ⟨b3, o4, none⟩)) (y_nilCheck (ev_tv rfl rfl)) ?_
    refine G_val (dj := 7) rfl rfl hq4 (v := .pointer (some ⟨b3, o4 + 2, none⟩)) (Try.fa71_2 (ev_tv rfl rfl)) ?_
    obtain ⟨x5, x5l, x5c, hc5, H⟩ := H
    refine G_val (dj := 7) rfl rfl hq4 (v := .slice x5 x5l x5c) (y_load Try.underlying69 rfl (ev_tv rfl rfl) hc5) ?_
    refine G_val (dj := 7) rfl rfl hq4 (v := .int .i64 ((x5l : Nat) : Int)) (y_len Try.underlying69 rfl (map_ev1 (ev_tv rfl rfl))) ?_
    refine G_val (dj := 7) rfl rfl hq4 (v := .bool (decide ((a_id2 : Int) ≤ ((x5l : Nat) : Int)))) (y_leq (ev_tv rfl rfl) (ev_tv rfl rfl)) ?_
    refine L_val (v := .bool (decide ((a_id2 : Int) ≤ ((x5l : Nat) : Int)))) (y_pick_t (ev_tv rfl hq4) (ev_tv rfl rfl)) ?_
    refine L_val (v := .bool (decide ((a_id2 : Int) ≤ ((x5l : Nat) : Int)))) (y_move (ev_tv rfl rfl)) ?_
    rcases (Decidable.em ((a_id2 : Int) ≤ ((x5l : Nat) : Int))) with hb6 | hb6
    · replace H := H.1 hb6
      have hq7 : Value.bool (decide ((a_id2 : Int) ≤ ((x5l : Nat) : Int))) = Value.bool true := congrArg Value.bool (decide_eq_true hb6)
      refine G_val (dj := 16) rfl rfl hq7 (v := .pointer (some ⟨b3, o4, none⟩)) (y_move (ev_tv rfl rfl)) ?_
      refine G_val (dj := 16) rfl rfl hq7 (v := .pointer (some ⟨b3, o4, none⟩)) (y_nilCheck (ev_tv rfl rfl)) ?_
      refine G_val (dj := 16) rfl rfl hq7 (v := .pointer (some ⟨b3, o4 + 2, none⟩)) (Try.fa71_2 (ev_tv rfl rfl)) ?_
      obtain ⟨x6, x6l, x6c, hc8, H⟩ := H
      refine G_val (dj := 16) rfl rfl hq7 (v := .slice x6 x6l x6c) (y_load Try.underlying69 rfl (ev_tv rfl rfl) hc8) ?_
      refine G_val (dj := 16) rfl rfl hq7 (v := .int .i64 a_id2) (y_move (ev_tv rfl rfl)) ?_
      obtain ⟨r7, hr9⟩ : ∃ r7 : Int, r7 = IntKind.wrap .i64 (a_id2 - 1) := ⟨_, rfl⟩
      replace H := H r7 hr9
      refine G_val (dj := 16) rfl rfl hq7 (v := .int .i64 r7) (y_sub (ev_tv rfl rfl) ev_c hr9) ?_
      obtain ⟨b8, o9, rfl, H⟩ := H
      obtain ⟨hi10, hi11, H⟩ := H
      refine G_val (dj := 16) rfl rfl hq7 (v := .pointer (some ⟨b8, o9 + (r7 : Int).toNat * 3, none⟩)) (y_ix Try.underlying69 Try.type84 rfl (ev_tv rfl rfl) (ev_tv rfl rfl) hi10 hi11) ?_
      refine G_val (dj := 16) rfl rfl hq7 (v := .pointer (some ⟨b8, o9 + (r7 : Int).toNat * 3 + 2, none⟩)) (Try.fa84_2 (ev_tv rfl rfl)) ?_
      obtain ⟨x10, x10l, x10c, hc12, H⟩ := H
      refine G_val (dj := 16) rfl rfl hq7 (v := .slice x10 x10l x10c) (y_load Try.underlying23 rfl (ev_tv rfl rfl) hc12) ?_
      refine G_val (dj := 16) rfl rfl hq7 (v := .int .i64 ((x10l : Nat) : Int)) (y_len Try.underlying23 rfl (map_ev1 (ev_tv rfl rfl))) ?_
      refine G_val (dj := 16) rfl rfl hq7 (v := .bool (decide ((((x10l : Nat) : Int) : Int) = 0))) (y_ieq (ev_tv rfl rfl) ev_c) ?_
      refine L_val (v := .bool (decide ((((x10l : Nat) : Int) : Int) = 0))) (y_pick_t (ev_tv rfl hq7) (ev_tv rfl rfl)) ?_
      refine L_val (v := .bool (decide ((((x10l : Nat) : Int) : Int) = 0))) (y_assign (ev_tv rfl rfl)) ?_
      refine l_nil ?_
      refine then_norm ?_
      refine hK2 _ _ ?_
      clear hK2
      refine c_ret ?_
      exact body_1 rfl (ev_tv rfl rfl) H
    · replace H := H.2 hb6
      have hq7 : Value.bool (decide ((a_id2 : Int) ≤ ((x5l : Nat) : Int))) = Value.bool false := congrArg Value.bool (decide_eq_false hb6)
      refine G_not (b' := false) (dj := 16) rfl rfl hq7 rfl ?_
      refine G_not (b' := false) (dj := 16) rfl rfl hq7 rfl ?_
      refine G_not (b' := false) (dj := 16) rfl rfl hq7 rfl ?_
      refine G_not (b' := false) (dj := 16) rfl rfl hq7 rfl ?_
      refine G_not (b' := false) (dj := 16) rfl rfl hq7 rfl ?_
      refine G_not (b' := false) (dj := 16) rfl rfl hq7 rfl ?_
      refine G_not (b' := false) (dj := 16) rfl rfl hq7 rfl ?_
      refine G_not (b' := false) (dj := 16) rfl rfl hq7 rfl ?_
      refine G_not (b' := false) (dj := 16) rfl rfl hq7 rfl ?_
      refine G_not (b' := false) (dj := 16) rfl rfl hq7 rfl ?_
      refine G_not (b' := false) (dj := 16) rfl rfl hq7 rfl ?_
      refine L_val (v := .bool false) (y_pick_f (ev_tv rfl hq7) ev_c) ?_
      refine L_val (v := .bool false) (y_assign (ev_tv rfl rfl)) ?_
      refine l_nil ?_
      refine then_norm ?_
      refine hK2 _ _ ?_
      clear hK2
      refine c_ret ?_
      exact body_1 rfl (ev_tv rfl rfl) H
  · replace H := H.2 hb3
    have hq4 : Value.bool (decide ((1 : Int) ≤ a_id2)) = Value.bool false := congrArg Value.bool (decide_eq_false hb3)
    refine G_not (b' := false) (dj := 7) rfl rfl hq4 rfl ?_
    refine G_not (b' := false) (dj := 7) rfl rfl hq4 rfl ?_
    refine G_not (b' := false) (dj := 7) rfl rfl hq4 rfl ?_
    refine G_not (b' := false) (dj := 7) rfl rfl hq4 rfl ?_
    refine G_not (b' := false) (dj := 7) rfl rfl hq4 rfl ?_
    refine G_not (b' := false) (dj := 7) rfl rfl hq4 rfl ?_
    refine G_not (b' := false) (dj := 7) rfl rfl hq4 rfl ?_
    refine L_val (v := .bool false) (y_pick_f (ev_tv rfl hq4) ev_c) ?_
    refine L_val (v := .bool false) (y_move (ev_tv rfl rfl)) ?_
    refine G_not (b' := false) (dj := 16) rfl rfl rfl rfl ?_
    refine G_not (b' := false) (dj := 16) rfl rfl rfl rfl ?_
    refine G_not (b' := false) (dj := 16) rfl rfl rfl rfl ?_
    refine G_not (b' := false) (dj := 16) rfl rfl rfl rfl ?_
    refine G_not (b' := false) (dj := 16) rfl rfl rfl rfl ?_
    refine G_not (b' := false) (dj := 16) rfl rfl rfl rfl ?_
    refine G_not (b' := false) (dj := 16) rfl rfl rfl rfl ?_
    refine G_not (b' := false) (dj := 16) rfl rfl rfl rfl ?_
    refine G_not (b' := false) (dj := 16) rfl rfl rfl rfl ?_
    refine G_not (b' := false) (dj := 16) rfl rfl rfl rfl ?_
    refine G_not (b' := false) (dj := 16) rfl rfl rfl rfl ?_
    refine L_val (v := .bool false) (y_pick_f (ev_tv rfl rfl) ev_c) ?_
    refine L_val (v := .bool false) (y_assign (ev_tv rfl rfl)) ?_
    refine l_nil ?_
    refine then_norm ?_
    refine hK2 _ _ ?_
    clear hK2
    refine c_ret ?_
    exact body_1 rfl (ev_tv rfl rfl) H

/-- (parapet/tlb.Tlb).Open -/
def Vc31 (a_t1 : Option Addr) (w : World) (R : Ending → World → Prop) : Prop :=
  (((a_t1 = none) → R (.returned (.int .i64 0)) w) ∧ ((a_t1 ≠ none) → (∃ (b2 o3 : Nat), a_t1 = some ⟨b2, o3, none⟩ ∧ (∃ x4 : Option Nat, World.cell? w ⟨b2, o3 + 3, none⟩ = some (.map x4) ∧ (∃ n5 : Int, (Builtin.len_ #[54] 3 #[.map x4]).run Try.prog w = .ok (.int .i64 n5) w ∧ R (.returned (.int .i64 n5)) w)))))

theorem vc31 {a_t1 : Option Addr} {w : World} {R : Ending → World → Prop} (H : Vc31 a_t1 w R) : Calls Try.prog 31 #[.pointer a_t1] w R := by
  unfold Vc31 at H
  refine calls_start [.pointer a_t1] Try.func31 rfl Try.ntmps31 rfl ?_
  refine c_seq ?_
  intro K1 hK1
  refine c_region ?_
  refine L_val (v := .int .i64 0) (y_assign ev_c) ?_
  refine l_nil ?_
  refine then_norm ?_
  refine hK1 _ _ ?_
  clear hK1
  refine c_seq ?_
  intro K2 hK2
  refine c_seq ?_
  intro K3 hK3
  refine c_region ?_
  refine L_val (v := .pointer a_t1) (y_move (ev_tv rfl rfl)) ?_
  refine L_val (v := .bool (a_t1.isNone)) (y_peq Try.underlying24 (ev_tv rfl rfl) ev_c) ?_
  refine l_nil ?_
  refine then_norm ?_
  refine hK3 _ _ ?_
  clear hK3
  rcases (Classical.em (a_t1 = none)) with hb4 | hb4
  · replace H := H.1 hb4
    have hq5 : Value.bool (a_t1.isNone) = Value.bool true := congrArg Value.bool (isn_t hb4)
    refine cond_t (ev_tv rfl hq5) ?_
    refine c_seq ?_
    intro K6 hK6
    refine c_region ?_
    refine L_val (v := .int .i64 0) (y_assign ev_c) ?_
    refine l_nil ?_
    refine then_norm ?_
    refine hK6 _ _ ?_
    clear hK6
    refine c_ret ?_
    refine then_ret ?_
    exact body_1 rfl (ev_tv rfl rfl) H
  · replace H := H.2 hb4
    have hq5 : Value.bool (a_t1.isNone) = Value.bool false := congrArg Value.bool (isn_f hb4)
    refine cond_f (ev_tv rfl hq5) ?_
    refine c_skip ?_
    refine then_norm ?_
    refine hK2 _ _ ?_
    clear hK2
    refine c_seq ?_
    intro K7 hK7
    refine c_region ?_
    refine L_val (v := .pointer a_t1) (y_move (ev_tv rfl rfl)) ?_
    obtain ⟨b2, o3, rfl, H⟩ := H
    refine L_val (v := .pointer (some ⟨b2, o3, none⟩)) (y_nilCheck (ev_tv rfl rfl)) ?_
    refine L_val (v := .pointer (some ⟨b2, o3 + 3, none⟩)) (Try.fa56_3 (ev_tv rfl rfl)) ?_
    obtain ⟨x4, hc8, H⟩ := H
    refine L_val (v := .map x4) (y_load Try.underlying54 rfl (ev_tv rfl rfl) hc8) ?_
    obtain ⟨n5, hc9, H⟩ := H
    refine L_val (v := .int .i64 n5) (y_bi_len (map_ev1 (ev_tv rfl rfl)) hc9) ?_
    refine L_val (v := .int .i64 n5) (y_assign (ev_tv rfl rfl)) ?_
    refine l_nil ?_
    refine then_norm ?_
    refine hK7 _ _ ?_
    clear hK7
    refine c_ret ?_
    exact body_1 rfl (ev_tv rfl rfl) H

/-- (parapet/parapetref07.Tlb).Open -/
def Vc32 (a_t1 : Option Addr) (w : World) (R : Ending → World → Prop) : Prop :=
  (∃ I5 : Nat → Int → Int → World → Prop, (∃ m, I5 m 0 0 w) ∧ ∀ (m4 : Nat) (v2 : Int) (v3 : Int) (w5 : World), I5 m4 v2 v3 w5 → (∃ (b6 o7 : Nat), a_t1 = some ⟨b6, o7, none⟩ ∧ (∃ x8 : Option Addr, ∃ x8l : Nat, ∃ x8c : Nat, World.cell? w5 ⟨b6, o7 + 2, none⟩ = some (.slice x8 x8l x8c) ∧ ((((v3 : Int) < ((x8l : Nat) : Int)) → (∃ x9 : Option Addr, ∃ x9l : Nat, ∃ x9c : Nat, World.cell? w5 ⟨b6, o7 + 2, none⟩ = some (.slice x9 x9l x9c) ∧ (∃ (b10 o11 : Nat), x9 = some ⟨b10, o11, none⟩ ∧ ((0 : Int) ≤ v3 ∧ v3 < ((x9l : Nat) : Int) ∧ (∃ x12 : Option Addr, ∃ x12l : Nat, ∃ x12c : Nat, World.cell? w5 ⟨b10, o11 + (v3 : Int).toNat * 3 + 2, none⟩ = some (.slice x12 x12l x12c) ∧ ((((0 : Int) < ((x12l : Nat) : Int)) → (∀ r13 : Int, r13 = IntKind.wrap .i64 (v2 + 1) → (∀ r14 : Int, r14 = IntKind.wrap .i64 (v3 + 1) → (∃ m15, m15 < m4 ∧ I5 m15 r13 r14 w5)))) ∧ ((¬ ((0 : Int) < ((x12l : Nat) : Int))) → (∀ r16 : Int, r16 = IntKind.wrap .i64 (v3 + 1) → (∃ m17, m17 < m4 ∧ I5 m17 v2 r16 w5))))))))) ∧ ((¬ ((v3 : Int) < ((x8l : Nat) : Int))) → R (.returned (.int .i64 v2)) w5)))))

theorem vc32 {a_t1 : Option Addr} {w : World} {R : Ending → World → Prop} (H : Vc32 a_t1 w R) : Calls Try.prog 32 #[.pointer a_t1] w R := by
  unfold Vc32 at H
  refine calls_start [.pointer a_t1] Try.func32 rfl Try.ntmps32 rfl ?_
  refine c_seq ?_
  intro K1 hK1
  refine c_region ?_
  refine L_val (v := .int .i64 0) (y_assign ev_c) ?_
  refine l_nil ?_
  refine then_norm ?_
  refine hK1 _ _ ?_
  clear hK1
  refine c_seq ?_
  intro K2 hK2
  refine c_region ?_
  refine L_val (v := .int .i64 0) (y_assign ev_c) ?_
  refine l_nil ?_
  refine then_norm ?_
  refine hK2 _ _ ?_
  clear hK2
  refine c_seq ?_
  intro K3 hK3
  refine c_seq ?_
  intro K4 hK4
  refine c_region ?_
  refine L_val (v := .int .i64 0) (y_assign ev_c) ?_
  refine l_nil ?_
  refine then_norm ?_
  refine hK4 _ _ ?_
  clear hK4
  refine c_block ?_
  obtain ⟨I5, ⟨m9, HI10⟩, H⟩ := H
  refine loop_fr ([(3, 25)]) (fun m ff ww => ∃ (v2 : Int) (v3 : Int), ff 3 = (.int .i64 v2 : Value) ∧ ff 4 = (.int .i64 v3 : Value) ∧ I5 m v2 v3 ww) m9 ⟨0, 0, rfl, rfl, HI10⟩ ?_
  rintro m4 f6 w5 hag7 ⟨v2, v3, hs11, hs12, HI8⟩
  replace H := H m4 v2 v3 w5 HI8
  refine c_seq ?_
  intro K13 hK13
  refine c_seq ?_
  intro K14 hK14
  refine c_region ?_
  refine L_val (v := .int .i64 v3) (y_move (ev_tv rfl hs12)) ?_
  refine L_val (v := .pointer a_t1) (y_move (ev_tv rfl ((hag7 0 rfl).trans rfl))) ?_
  obtain ⟨b6, o7, rfl, H⟩ := H
  refine L_val (v := .pointer (some ⟨b6, o7, none⟩)) (y_nilCheck (ev_tv rfl rfl)) ?_
  refine L_val (v := .pointer (some ⟨b6, o7 + 2, none⟩)) (Try.fa71_2 (ev_tv rfl rfl)) ?_
  obtain ⟨x8, x8l, x8c, hc15, H⟩ := H
  refine L_val (v := .slice x8 x8l x8c) (y_load Try.underlying69 rfl (ev_tv rfl rfl) hc15) ?_
  refine L_val (v := .int .i64 ((x8l : Nat) : Int)) (y_len Try.underlying69 rfl (map_ev1 (ev_tv rfl rfl))) ?_
  refine L_val (v := .bool (decide ((v3 : Int) < ((x8l : Nat) : Int)))) (y_lss (ev_tv rfl rfl) (ev_tv rfl rfl)) ?_
  refine l_nil ?_
  refine then_norm ?_
  refine hK14 _ _ ?_
  clear hK14
  rcases (Decidable.em ((v3 : Int) < ((x8l : Nat) : Int))) with hb16 | hb16
  · replace H := H.1 hb16
    have hq17 : Value.bool (decide ((v3 : Int) < ((x8l : Nat) : Int))) = Value.bool true := congrArg Value.bool (decide_eq_true hb16)
    refine cond_t (ev_tv rfl hq17) ?_
    refine c_skip ?_
    refine then_norm ?_
    refine hK13 _ _ ?_
    clear hK13
    refine c_seq ?_
    intro K18 hK18
    refine c_block ?_
    refine c_seq ?_
    intro K19 hK19
    refine c_region ?_
    refine L_val (v := .pointer (some ⟨b6, o7, none⟩)) (y_move (ev_tv rfl ((hag7 0 rfl).trans rfl))) ?_
    refine L_val (v := .pointer (some ⟨b6, o7, none⟩)) (y_nilCheck (ev_tv rfl rfl)) ?_
    refine L_val (v := .pointer (some ⟨b6, o7 + 2, none⟩)) (Try.fa71_2 (ev_tv rfl rfl)) ?_
    obtain ⟨x9, x9l, x9c, hc20, H⟩ := H
    refine L_val (v := .slice x9 x9l x9c) (y_load Try.underlying69 rfl (ev_tv rfl rfl) hc20) ?_
    refine L_val (v := .int .i64 v3) (y_move (ev_tv rfl hs12)) ?_
    obtain ⟨b10, o11, rfl, H⟩ := H
    obtain ⟨hi21, hi22, H⟩ := H
    refine L_val (v := .pointer (some ⟨b10, o11 + (v3 : Int).toNat * 3, none⟩)) (y_ix Try.underlying69 Try.type84 rfl (ev_tv rfl rfl) (ev_tv rfl rfl) hi21 hi22) ?_
    refine L_val (v := .pointer (some ⟨b10, o11 + (v3 : Int).toNat * 3 + 2, none⟩)) (Try.fa84_2 (ev_tv rfl rfl)) ?_
    obtain ⟨x12, x12l, x12c, hc23, H⟩ := H
    refine L_val (v := .slice x12 x12l x12c) (y_load Try.underlying23 rfl (ev_tv rfl rfl) hc23) ?_
    refine L_val (v := .int .i64 ((x12l : Nat) : Int)) (y_len Try.underlying23 rfl (map_ev1 (ev_tv rfl rfl))) ?_
    refine L_val (v := .bool (decide ((0 : Int) < ((x12l : Nat) : Int)))) (y_gtr (ev_tv rfl rfl) ev_c) ?_
    refine l_nil ?_
    refine then_norm ?_
    refine hK19 _ _ ?_
    clear hK19
    rcases (Decidable.em ((0 : Int) < ((x12l : Nat) : Int))) with hb24 | hb24
    · replace H := H.1 hb24
      have hq25 : Value.bool (decide ((0 : Int) < ((x12l : Nat) : Int))) = Value.bool true := congrArg Value.bool (decide_eq_true hb24)
      refine cond_t (ev_tv rfl hq25) ?_
      refine c_region ?_
      refine L_val (v := .int .i64 v2) (y_move (ev_tv rfl hs11)) ?_
      obtain ⟨r13, hr26⟩ : ∃ r13 : Int, r13 = IntKind.wrap .i64 (v2 + 1) := ⟨_, rfl⟩
      replace H := H r13 hr26
      refine L_val (v := .int .i64 r13) (y_add (ev_tv rfl rfl) ev_c hr26) ?_
      refine L_val (v := .int .i64 r13) (y_assign (ev_tv rfl rfl)) ?_
      refine l_nil ?_
      refine block_norm ?_
      refine then_norm ?_
      refine hK18 _ _ ?_
      clear hK18
      refine c_region ?_
      refine L_val (v := .int .i64 v3) (y_move (ev_tv rfl hs12)) ?_
      obtain ⟨r14, hr27⟩ : ∃ r14 : Int, r14 = IntKind.wrap .i64 (v3 + 1) := ⟨_, rfl⟩
      replace H := H r14 hr27
      refine L_val (v := .int .i64 r14) (y_add (ev_tv rfl rfl) ev_c hr27) ?_
      refine L_val (v := .int .i64 r14) (y_assign (ev_tv rfl rfl)) ?_
      refine l_nil ?_
      refine then_norm ?_
      obtain ⟨m15, hm28, H⟩ := H
      exact ⟨_, rfl, (by repeat (first | exact agree_refl | exact hag7 | refine agree_upd rfl ?_ | refine agree_via hag7 rfl ?_)), m15, hm28, _, _, rfl, rfl, H⟩
    · replace H := H.2 hb24
      have hq25 : Value.bool (decide ((0 : Int) < ((x12l : Nat) : Int))) = Value.bool false := congrArg Value.bool (decide_eq_false hb24)
      refine cond_f (ev_tv rfl hq25) ?_
      refine c_skip ?_
      refine block_norm ?_
      refine then_norm ?_
      refine hK18 _ _ ?_
      clear hK18
      refine c_region ?_
      refine L_val (v := .int .i64 v3) (y_move (ev_tv rfl hs12)) ?_
      obtain ⟨r16, hr29⟩ : ∃ r16 : Int, r16 = IntKind.wrap .i64 (v3 + 1) := ⟨_, rfl⟩
      replace H := H r16 hr29
      refine L_val (v := .int .i64 r16) (y_add (ev_tv rfl rfl) ev_c hr29) ?_
      refine L_val (v := .int .i64 r16) (y_assign (ev_tv rfl rfl)) ?_
      refine l_nil ?_
      refine then_norm ?_
      obtain ⟨m17, hm30, H⟩ := H
      exact ⟨_, rfl, (by repeat (first | exact agree_refl | exact hag7 | refine agree_upd rfl ?_ | refine agree_via hag7 rfl ?_)), m17, hm30, _, _, hs11, rfl, H⟩
  · replace H := H.2 hb16
    have hq17 : Value.bool (decide ((v3 : Int) < ((x8l : Nat) : Int))) = Value.bool false := congrArg Value.bool (decide_eq_false hb16)
    refine cond_f (ev_tv rfl hq17) ?_
    refine c_exit ?_
    refine then_exit ?_
    refine then_exit ?_
    refine block_hit ?_
    refine then_norm ?_
    refine hK3 _ _ ?_
    clear hK3
    refine c_seq ?_
    intro K31 hK31
    refine c_region ?_
    refine L_val (v := .int .i64 v2) (y_move (ev_tv rfl hs11)) ?_
    refine L_val (v := .int .i64 v2) (y_assign (ev_tv rfl rfl)) ?_
    refine l_nil ?_
    refine then_norm ?_
    refine hK31 _ _ ?_
    clear hK31
    refine c_ret ?_
    exact body_1 rfl (ev_tv rfl rfl) H

/-- (parapet/tlb.Tlb).Harts -/
def Vc33 (a_t1 : Option Addr) (w : World) (R : Ending → World → Prop) : Prop :=
  (((a_t1 = none) → R (.returned (.int .i64 0)) w) ∧ ((a_t1 ≠ none) → (∃ (b2 o3 : Nat), a_t1 = some ⟨b2, o3, none⟩ ∧ (∃ x4 : Option Addr, ∃ x4l : Nat, ∃ x4c : Nat, World.cell? w ⟨b2, o3 + 1, none⟩ = some (.slice x4 x4l x4c) ∧ R (.returned (.int .i64 ((x4l : Nat) : Int))) w))))

theorem vc33 {a_t1 : Option Addr} {w : World} {R : Ending → World → Prop} (H : Vc33 a_t1 w R) : Calls Try.prog 33 #[.pointer a_t1] w R := by
  unfold Vc33 at H
  refine calls_start [.pointer a_t1] Try.func33 rfl Try.ntmps33 rfl ?_
  refine c_seq ?_
  intro K1 hK1
  refine c_region ?_
  refine L_val (v := .int .i64 0) (y_assign ev_c) ?_
  refine l_nil ?_
  refine then_norm ?_
  refine hK1 _ _ ?_
  clear hK1
  refine c_seq ?_
  intro K2 hK2
  refine c_seq ?_
  intro K3 hK3
  refine c_region ?_
  refine L_val (v := .pointer a_t1) (y_move (ev_tv rfl rfl)) ?_
  refine L_val (v := .bool (a_t1.isNone)) (y_peq Try.underlying24 (ev_tv rfl rfl) ev_c) ?_
  refine l_nil ?_
  refine then_norm ?_
  refine hK3 _ _ ?_
  clear hK3
  rcases (Classical.em (a_t1 = none)) with hb4 | hb4
  · replace H := H.1 hb4
    have hq5 : Value.bool (a_t1.isNone) = Value.bool true := congrArg Value.bool (isn_t hb4)
    refine cond_t (ev_tv rfl hq5) ?_
    refine c_seq ?_
    intro K6 hK6
    refine c_region ?_
    refine L_val (v := .int .i64 0) (y_assign ev_c) ?_
    refine l_nil ?_
    refine then_norm ?_
    refine hK6 _ _ ?_
    clear hK6
    refine c_ret ?_
    refine then_ret ?_
    exact body_1 rfl (ev_tv rfl rfl) H
  · replace H := H.2 hb4
    have hq5 : Value.bool (a_t1.isNone) = Value.bool false := congrArg Value.bool (isn_f hb4)
    refine cond_f (ev_tv rfl hq5) ?_
    refine c_skip ?_
    refine then_norm ?_
    refine hK2 _ _ ?_
    clear hK2
    refine c_seq ?_
    intro K7 hK7
    refine c_region ?_
    refine L_val (v := .pointer a_t1) (y_move (ev_tv rfl rfl)) ?_
    obtain ⟨b2, o3, rfl, H⟩ := H
    refine L_val (v := .pointer (some ⟨b2, o3, none⟩)) (y_nilCheck (ev_tv rfl rfl)) ?_
    refine L_val (v := .pointer (some ⟨b2, o3 + 1, none⟩)) (Try.fa56_1 (ev_tv rfl rfl)) ?_
    obtain ⟨x4, x4l, x4c, hc8, H⟩ := H
    refine L_val (v := .slice x4 x4l x4c) (y_load Try.underlying53 rfl (ev_tv rfl rfl) hc8) ?_
    refine L_val (v := .int .i64 ((x4l : Nat) : Int)) (y_len Try.underlying53 rfl (map_ev1 (ev_tv rfl rfl))) ?_
    refine L_val (v := .int .i64 ((x4l : Nat) : Int)) (y_assign (ev_tv rfl rfl)) ?_
    refine l_nil ?_
    refine then_norm ?_
    refine hK7 _ _ ?_
    clear hK7
    refine c_ret ?_
    exact body_1 rfl (ev_tv rfl rfl) H

/-- (parapet/parapetref07.Tlb).Pending -/
def Vc34 (a_t1 : Option Addr) (a_h2 : Int) (w : World) (R : Ending → World → Prop) : Prop :=
  (∃ I5 : Nat → Option Addr → Nat → Nat → Int → World → Prop, (∃ m, I5 m none 0 0 0 w) ∧ ∀ (m5 : Nat) (v3 : Option Addr) (v3l : Nat) (v3c : Nat) (v4 : Int) (w6 : World), I5 m5 v3 v3l v3c v4 w6 → (∃ (b7 o8 : Nat), a_t1 = some ⟨b7, o8, none⟩ ∧ (∃ x9 : Option Addr, ∃ x9l : Nat, ∃ x9c : Nat, World.cell? w6 ⟨b7, o8 + 2, none⟩ = some (.slice x9 x9l x9c) ∧ ((((v4 : Int) < ((x9l : Nat) : Int)) → (∃ x10 : Option Addr, ∃ x10l : Nat, ∃ x10c : Nat, World.cell? w6 ⟨b7, o8 + 2, none⟩ = some (.slice x10 x10l x10c) ∧ (∃ (b11 o12 : Nat), x10 = some ⟨b11, o12, none⟩ ∧ ((0 : Int) ≤ v4 ∧ v4 < ((x10l : Nat) : Int) ∧ (∃ x13 : Option Addr, ∃ x13l : Nat, ∃ x13c : Nat, World.cell? w6 ⟨b11, o12 + (v4 : Int).toNat * 3 + 2, none⟩ = some (.slice x13 x13l x13c) ∧ (Calls Try.prog 42 #[.slice x13 x13l x13c, .int .i64 a_h2] w6 fun e w15 => ∃ x14 : Bool, e = .returned (.bool x14) ∧ (((x14 = true) → (∃ x17 : Option Addr, ∃ x17l : Nat, ∃ x17c : Nat, World.cell? w15 ⟨b7, o8 + 2, none⟩ = some (.slice x17 x17l x17c) ∧ (∃ (b18 o19 : Nat), x17 = some ⟨b18, o19, none⟩ ∧ ((0 : Int) ≤ v4 ∧ v4 < ((x17l : Nat) : Int) ∧ (∃ x20 : Int, World.cell? w15 ⟨b18, o19 + (v4 : Int).toNat * 3, none⟩ = some (.int .i64 x20) ∧ (∀ (b21 : Nat) (w22 : World), b21 = World.heapSize w15 → w22 = World.alloc w15 (.cells #[.int .i64 x20] 3) → (∃ x24 : Option Addr, ∃ x24l : Nat, ∃ x24c : Nat, ∃ w23 : World, (Builtin.append_ #[23, 23] 23 #[.slice v3 v3l v3c, .slice (some ⟨b21, 0, none⟩) 1 1]).run Try.prog w22 = .ok (.slice x24 x24l x24c) w23 ∧ (∀ r25 : Int, r25 = IntKind.wrap .i64 (v4 + 1) → (∃ m26, m26 < m5 ∧ I5 m26 x24 x24l x24c r25 w23))))))))) ∧ ((x14 = false) → (∀ r27 : Int, r27 = IntKind.wrap .i64 (v4 + 1) → (∃ m28, m28 < m5 ∧ I5 m28 v3 v3l v3c r27 w15)))))))))) ∧ ((¬ ((v4 : Int) < ((x9l : Nat) : Int))) → R (.returned (.slice v3 v3l v3c)) w6)))))

theorem vc34 {a_t1 : Option Addr} {a_h2 : Int} {w : World} {R : Ending → World → Prop} (H : Vc34 a_t1 a_h2 w R) : Calls Try.prog 34 #[.pointer a_t1, .int .i64 a_h2] w R := by
  unfold Vc34 at H
  refine calls_start [.pointer a_t1, .int .i64 a_h2] Try.func34 rfl Try.ntmps34 rfl ?_
  refine c_seq ?_
  intro K1 hK1
  refine c_region ?_
  refine L_val (v := .slice none 0 0) (y_assign ev_c) ?_
  refine l_nil ?_
  refine then_norm ?_
  refine hK1 _ _ ?_
  clear hK1
  refine c_seq ?_
  intro K2 hK2
  refine c_region ?_
  refine L_val (v := .slice none 0 0) (y_assign ev_c) ?_
  refine l_nil ?_
  refine then_norm ?_
  refine hK2 _ _ ?_
  clear hK2
  refine c_seq ?_
  intro K3 hK3
  refine c_seq ?_
  intro K4 hK4
  refine c_region ?_
  refine L_val (v := .int .i64 0) (y_assign ev_c) ?_
  refine l_nil ?_
  refine then_norm ?_
  refine hK4 _ _ ?_
  clear hK4
  refine c_block ?_
  obtain ⟨I5, ⟨m9, HI10⟩, H⟩ := H
  refine loop_fr ([(5, 36)]) (fun m ff ww => ∃ (v3 : Option Addr) (v3l : Nat) (v3c : Nat) (v4 : Int), ff 5 = (.slice v3 v3l v3c : Value) ∧ ff 6 = (.int .i64 v4 : Value) ∧ I5 m v3 v3l v3c v4 ww) m9 ⟨none, 0, 0, 0, rfl, rfl, HI10⟩ ?_
  rintro m5 f6 w6 hag7 ⟨v3, v3l, v3c, v4, hs11, hs12, HI8⟩
  replace H := H m5 v3 v3l v3c v4 w6 HI8
  refine c_seq ?_
  intro K13 hK13
  refine c_seq ?_
  intro K14 hK14
  refine c_region ?_
  refine L_val (v := .int .i64 v4) (y_move (ev_tv rfl hs12)) ?_
  refine L_val (v := .pointer a_t1) (y_move (ev_tv rfl ((hag7 0 rfl).trans rfl))) ?_
  obtain ⟨b7, o8, rfl, H⟩ := H
  refine L_val (v := .pointer (some ⟨b7, o8, none⟩)) (y_nilCheck (ev_tv rfl rfl)) ?_
  refine L_val (v := .pointer (some ⟨b7, o8 + 2, none⟩)) (Try.fa71_2 (ev_tv rfl rfl)) ?_
  obtain ⟨x9, x9l, x9c, hc15, H⟩ := H
  refine L_val (v := .slice x9 x9l x9c) (y_load Try.underlying69 rfl (ev_tv rfl rfl) hc15) ?_
  refine L_val (v := .int .i64 ((x9l : Nat) : Int)) (y_len Try.underlying69 rfl (map_ev1 (ev_tv rfl rfl))) ?_
  refine L_val (v := .bool (decide ((v4 : Int) < ((x9l : Nat) : Int)))) (y_lss (ev_tv rfl rfl) (ev_tv rfl rfl)) ?_
  refine l_nil ?_
  refine then_norm ?_
  refine hK14 _ _ ?_
  clear hK14
  rcases (Decidable.em ((v4 : Int) < ((x9l : Nat) : Int))) with hb16 | hb16
  · replace H := H.1 hb16
    have hq17 : Value.bool (decide ((v4 : Int) < ((x9l : Nat) : Int))) = Value.bool true := congrArg Value.bool (decide_eq_true hb16)
    refine cond_t (ev_tv rfl hq17) ?_
    refine c_skip ?_
    refine then_norm ?_
    refine hK13 _ _ ?_
    clear hK13
    refine c_seq ?_
    intro K18 hK18
    refine c_block ?_
    refine c_seq ?_
    intro K19 hK19
    refine c_region ?_
    refine L_val (v := .pointer (some ⟨b7, o8, none⟩)) (y_move (ev_tv rfl ((hag7 0 rfl).trans rfl))) ?_
    refine L_val (v := .pointer (some ⟨b7, o8, none⟩)) (y_nilCheck (ev_tv rfl rfl)) ?_
    refine L_val (v := .pointer (some ⟨b7, o8 + 2, none⟩)) (Try.fa71_2 (ev_tv rfl rfl)) ?_
    obtain ⟨x10, x10l, x10c, hc20, H⟩ := H
    refine L_val (v := .slice x10 x10l x10c) (y_load Try.underlying69 rfl (ev_tv rfl rfl) hc20) ?_
    refine L_val (v := .int .i64 v4) (y_move (ev_tv rfl hs12)) ?_
    obtain ⟨b11, o12, rfl, H⟩ := H
    obtain ⟨hi21, hi22, H⟩ := H
    refine L_val (v := .pointer (some ⟨b11, o12 + (v4 : Int).toNat * 3, none⟩)) (y_ix Try.underlying69 Try.type84 rfl (ev_tv rfl rfl) (ev_tv rfl rfl) hi21 hi22) ?_
    refine L_val (v := .pointer (some ⟨b11, o12 + (v4 : Int).toNat * 3 + 2, none⟩)) (Try.fa84_2 (ev_tv rfl rfl)) ?_
    obtain ⟨x13, x13l, x13c, hc23, H⟩ := H
    refine L_val (v := .slice x13 x13l x13c) (y_load Try.underlying23 rfl (ev_tv rfl rfl) hc23) ?_
    refine L_val (v := .int .i64 a_h2) (y_move (ev_tv rfl ((hag7 1 rfl).trans rfl))) ?_
    refine L_call (y_call Try.call42 (map_ev2 (ev_tv rfl rfl) (ev_tv rfl rfl)) ev_f) (Calls.mono H ?_)
    clear H
    rintro _ w15 ⟨x14, rfl, H⟩
    refine ⟨_, rfl, ?_⟩
    refine l_nil ?_
    refine then_norm ?_
    refine hK19 _ _ ?_
    clear hK19
    rcases Bool.eq_false_or_eq_true x14 with hb24 | hb24
    · replace H := H.1 hb24
      have hq25 : Value.bool (x14) = Value.bool true := congrArg Value.bool hb24
      refine cond_t (ev_tv rfl hq25) ?_
      refine c_region ?_
      refine L_val (v := .slice v3 v3l v3c) (y_move (ev_tv rfl hs11)) ?_
      refine L_val (v := .pointer (some ⟨b7, o8, none⟩)) (y_move (ev_tv rfl ((hag7 0 rfl).trans rfl))) ?_
      refine L_val (v := .pointer (some ⟨b7, o8, none⟩)) (y_nilCheck (ev_tv rfl rfl)) ?_
      refine L_val (v := .pointer (some ⟨b7, o8 + 2, none⟩)) (Try.fa71_2 (ev_tv rfl rfl)) ?_
      obtain ⟨x17, x17l, x17c, hc26, H⟩ := H
      refine L_val (v := .slice x17 x17l x17c) (y_load Try.underlying69 rfl (ev_tv rfl rfl) hc26) ?_
      refine L_val (v := .int .i64 v4) (y_move (ev_tv rfl hs12)) ?_
      obtain ⟨b18, o19, rfl, H⟩ := H
      obtain ⟨hi27, hi28, H⟩ := H
      refine L_val (v := .pointer (some ⟨b18, o19 + (v4 : Int).toNat * 3, none⟩)) (y_ix Try.underlying69 Try.type84 rfl (ev_tv rfl rfl) (ev_tv rfl rfl) hi27 hi28) ?_
      refine L_val (v := .pointer (some ⟨b18, o19 + (v4 : Int).toNat * 3, none⟩)) (Try.fa84_0 (ev_tv rfl rfl)) ?_
      obtain ⟨x20, hc29, H⟩ := H
      refine L_val (v := .int .i64 x20) (y_load Try.underlying3 rfl (ev_tv rfl rfl) hc29) ?_
      obtain ⟨b21, hb30⟩ : ∃ b21 : Nat, b21 = World.heapSize w15 := ⟨_, rfl⟩
      obtain ⟨w22, hw31⟩ : ∃ w22 : World, w22 = World.alloc w15 (.cells #[.int .i64 x20] 3) := ⟨_, rfl⟩
      replace H := H b21 w22 hb30 hw31
      refine L_val (v := .slice (some ⟨b21, 0, none⟩) 1 1) (y_buildSlice (parts_ev1 (ev_tv rfl rfl)) hb30 hw31 (by kernel_rfl)) ?_
      obtain ⟨x24, x24l, x24c, w23, hc32, H⟩ := H
      refine L_val (v := .slice x24 x24l x24c) (y_bi_append (map_ev2 (ev_tv rfl rfl) (ev_tv rfl rfl)) hc32) ?_
      refine L_val (v := .slice x24 x24l x24c) (y_assign (ev_tv rfl rfl)) ?_
      refine l_nil ?_
      refine block_norm ?_
      refine then_norm ?_
      refine hK18 _ _ ?_
      clear hK18
      refine c_region ?_
      refine L_val (v := .int .i64 v4) (y_move (ev_tv rfl hs12)) ?_
      obtain ⟨r25, hr33⟩ : ∃ r25 : Int, r25 = IntKind.wrap .i64 (v4 + 1) := ⟨_, rfl⟩
      replace H := H r25 hr33
      refine L_val (v := .int .i64 r25) (y_add (ev_tv rfl rfl) ev_c hr33) ?_
      refine L_val (v := .int .i64 r25) (y_assign (ev_tv rfl rfl)) ?_
      refine l_nil ?_
      refine then_norm ?_
      obtain ⟨m26, hm34, H⟩ := H
      exact ⟨_, rfl, (by repeat (first | exact agree_refl | exact hag7 | refine agree_upd rfl ?_ | refine agree_via hag7 rfl ?_)), m26, hm34, _, _, _, _, rfl, rfl, H⟩
    · replace H := H.2 hb24
      have hq25 : Value.bool (x14) = Value.bool false := congrArg Value.bool hb24
      refine cond_f (ev_tv rfl hq25) ?_
      refine c_skip ?_
      refine block_norm ?_
      refine then_norm ?_
      refine hK18 _ _ ?_
      clear hK18
      refine c_region ?_
      refine L_val (v := .int .i64 v4) (y_move (ev_tv rfl hs12)) ?_
      obtain ⟨r27, hr35⟩ : ∃ r27 : Int, r27 = IntKind.wrap .i64 (v4 + 1) := ⟨_, rfl⟩
      replace H := H r27 hr35
      refine L_val (v := .int .i64 r27) (y_add (ev_tv rfl rfl) ev_c hr35) ?_
      refine L_val (v := .int .i64 r27) (y_assign (ev_tv rfl rfl)) ?_
      refine l_nil ?_
      refine then_norm ?_
      obtain ⟨m28, hm36, H⟩ := H
      exact ⟨_, rfl, (by repeat (first | exact agree_refl | exact hag7 | refine agree_upd rfl ?_ | refine agree_via hag7 rfl ?_)), m28, hm36, _, _, _, _, hs11, rfl, H⟩
  · replace H := H.2 hb16
    have hq17 : Value.bool (decide ((v4 : Int) < ((x9l : Nat) : Int))) = Value.bool false := congrArg Value.bool (decide_eq_false hb16)
    refine cond_f (ev_tv rfl hq17) ?_
    refine c_exit ?_
    refine then_exit ?_
    refine then_exit ?_
    refine block_hit ?_
    refine then_norm ?_
    refine hK3 _ _ ?_
    clear hK3
    refine c_seq ?_
    intro K37 hK37
    refine c_region ?_
    refine L_val (v := .slice v3 v3l v3c) (y_move (ev_tv rfl hs11)) ?_
    refine L_val (v := .slice v3 v3l v3c) (y_assign (ev_tv rfl rfl)) ?_
    refine l_nil ?_
    refine then_norm ?_
    refine hK37 _ _ ?_
    clear hK37
    refine c_ret ?_
    exact body_1 rfl (ev_tv rfl rfl) H

/-- slices.DeleteFunc[[]parapet/api.Key,parapet/api.Key] -/
def Vc37 (a_s1 : Option Addr) (a_s1l : Nat) (a_s1c : Nat) (a_del2 : Value) (w : World) (R : Ending → World → Prop) : Prop :=
  (Calls Try.prog 54 #[.slice a_s1 a_s1l a_s1c, a_del2] w fun e w4 => ∃ x3 : Int, e = .returned (.int .i64 x3) ∧ ((((x3 : Int) = (-1)) → R (.returned (.slice a_s1 a_s1l a_s1c)) w4) ∧ ((¬ ((x3 : Int) = (-1))) → (∃ J8 : Int → World → Prop, (∀ (v6 : Int) (w7 : World), J8 v6 w7 → ((0 : Int) ≤ v6 ∧ v6 ≤ ((a_s1l : Nat) : Int) ∧ ∀ a8 : Option Addr, a8 = subA a_s1 2 a_s1c (v6 : Int).toNat → (∃ w9 : World, (Builtin.clear_ #[40] 0 #[.slice a8 (a_s1l - (v6 : Int).toNat) (a_s1c - (v6 : Int).toNat)]).run Try.prog w7 = .ok (.tuple #[]) w9 ∧ ((0 : Int) ≤ v6 ∧ v6 ≤ ((a_s1c : Nat) : Int) ∧ ∀ a10 : Option Addr, a10 = a_s1 → R (.returned (.slice a10 ((v6 : Int).toNat) a_s1c)) w9)))) ∧ (∀ r11 : Int, r11 = IntKind.wrap .i64 (x3 + 1) → (∃ I26 : Nat → Int → Int → World → Prop, (∃ m, I26 m x3 r11 w4) ∧ ∀ (m14 : Nat) (v12 : Int) (v13 : Int) (w15 : World), I26 m14 v12 v13 w15 → ((((v13 : Int) < ((a_s1l : Nat) : Int)) → (∃ (b16 o17 : Nat), a_s1 = some ⟨b16, o17, none⟩ ∧ ((0 : Int) ≤ v13 ∧ v13 < ((a_s1l : Nat) : Int) ∧ (∃ x18 : Int, ∃ x19 : Int, CellsAt w15 ⟨b16, o17 + (v13 : Int).toNat * 2, none⟩ [.int .i64 x18, .int .i64 x19] ∧ (∀ (b20 : Nat) (w21 : World), b20 = World.heapSize w15 → w21 = World.alloc w15 (.cells #[.int .i64 0, .int .i64 0] 31) → ((∀ j, j < 2 → (World.cell? w21 (Addr.add ⟨b20, 0, none⟩ j)).isSome = true ∧ World.frozen? w21 (Addr.add ⟨b20, 0, none⟩ j) = false) ∧ ∀ w22 : World, w22 = putCells w21 ⟨b20, 0, none⟩ [.int .i64 x18, .int .i64 x19] 0 → (∃ x23 : Int, ∃ x24 : Int, CellsAt w22 ⟨b20, 0, none⟩ [.int .i64 x23, .int .i64 x24] ∧ (Invoke Try.prog a_del2 #[.agg #[.int .i64 x23, .int .i64 x24]] w22 fun e w26 => ∃ x25 : Bool, e = .returned (.bool x25) ∧ (((x25 = true) → (∀ r28 : Int, r28 = IntKind.wrap .i64 (v13 + 1) → (∃ m29, m29 < m14 ∧ I26 m29 v12 r28 w26))) ∧ ((x25 = false) → (∃ x30 : Int, ∃ x31 : Int, CellsAt w26 ⟨b20, 0, none⟩ [.int .i64 x30, .int .i64 x31] ∧ ((0 : Int) ≤ v12 ∧ v12 < ((a_s1l : Nat) : Int) ∧ ((∀ j, j < 2 → (World.cell? w26 (Addr.add ⟨b16, o17 + (v12 : Int).toNat * 2, none⟩ j)).isSome = true ∧ World.frozen? w26 (Addr.add ⟨b16, o17 + (v12 : Int).toNat * 2, none⟩ j) = false) ∧ ∀ w32 : World, w32 = putCells w26 ⟨b16, o17 + (v12 : Int).toNat * 2, none⟩ [.int .i64 x30, .int .i64 x31] 0 → (∀ r33 : Int, r33 = IntKind.wrap .i64 (v12 + 1) → (∀ r34 : Int, r34 = IntKind.wrap .i64 (v13 + 1) → (∃ m35, m35 < m14 ∧ I26 m35 r33 r34 w32)))))))))))))))) ∧ ((¬ ((v13 : Int) < ((a_s1l : Nat) : Int))) → J8 v12 w15))))))))

theorem vc37 {a_s1 : Option Addr} {a_s1l : Nat} {a_s1c : Nat} {a_del2 : Value} {w : World} {R : Ending → World → Prop} (H : Vc37 a_s1 a_s1l a_s1c a_del2 w R) : Calls Try.prog 37 #[.slice a_s1 a_s1l a_s1c, a_del2] w R := by
  unfold Vc37 at H
  refine calls_start [.slice a_s1 a_s1l a_s1c, a_del2] Try.func37 rfl Try.ntmps37 rfl ?_
  refine c_seq ?_
  intro K1 hK1
  refine c_region ?_
  refine L_val (v := .slice none 0 0) (y_assign ev_c) ?_
  refine l_nil ?_
  refine then_norm ?_
  refine hK1 _ _ ?_
  clear hK1
  refine c_seq ?_
  intro K2 hK2
  refine c_region ?_
  refine L_val (v := .slice a_s1 a_s1l a_s1c) (y_move (ev_tv rfl rfl)) ?_
  refine L_val (v := a_del2) (y_move (ev_tv rfl rfl)) ?_
  refine L_call (y_call Try.call54 (map_ev2 (ev_tv rfl rfl) (ev_tv rfl rfl)) ev_f) (Calls.mono H ?_)
  clear H
  rintro _ w4 ⟨x3, rfl, H⟩
  refine ⟨_, rfl, ?_⟩
  refine L_val (v := .int .i64 x3) (y_assign (ev_tv rfl rfl)) ?_
  refine l_nil ?_
  refine then_norm ?_
  refine hK2 _ _ ?_
  clear hK2
  refine c_seq ?_
  intro K3 hK3
  refine c_seq ?_
  intro K4 hK4
  refine c_region ?_
  refine L_val (v := .int .i64 x3) (y_move (ev_tv rfl rfl)) ?_
  refine L_val (v := .bool (decide ((x3 : Int) = (-1)))) (y_ieq (ev_tv rfl rfl) ev_c) ?_
  refine l_nil ?_
  refine then_norm ?_
  refine hK4 _ _ ?_
  clear hK4
  rcases (Decidable.em ((x3 : Int) = (-1))) with hb5 | hb5
  · replace H := H.1 hb5
    have hq6 : Value.bool (decide ((x3 : Int) = (-1))) = Value.bool true := congrArg Value.bool (decide_eq_true hb5)
    refine cond_t (ev_tv rfl hq6) ?_
    refine c_seq ?_
    intro K7 hK7
    refine c_region ?_
    refine L_val (v := .slice a_s1 a_s1l a_s1c) (y_move (ev_tv rfl rfl)) ?_
    refine L_val (v := .slice a_s1 a_s1l a_s1c) (y_assign (ev_tv rfl rfl)) ?_
    refine l_nil ?_
    refine then_norm ?_
    refine hK7 _ _ ?_
    clear hK7
    refine c_ret ?_
    refine then_ret ?_
    exact body_1 rfl (ev_tv rfl rfl) H
  · replace H := H.2 hb5
    have hq6 : Value.bool (decide ((x3 : Int) = (-1))) = Value.bool false := congrArg Value.bool (decide_eq_false hb5)
    refine cond_f (ev_tv rfl hq6) ?_
    refine c_skip ?_
    refine then_norm ?_
    refine hK3 _ _ ?_
    clear hK3
    obtain ⟨J8, hJ9, H⟩ := H
    refine c_seqJ [(5, 7), (14, 35)] (fun ff ww => ∃ (v6 : Int), ff 5 = (.int .i64 v6 : Value) ∧ J8 v6 ww) ?_ ?_
    · clear hJ9
      intro K13 hK13
      refine c_seq ?_
      intro K24 hK24
      refine c_region ?_
      refine L_val (v := .int .i64 x3) (y_move (ev_tv rfl rfl)) ?_
      obtain ⟨r11, hr25⟩ : ∃ r11 : Int, r11 = IntKind.wrap .i64 (x3 + 1) := ⟨_, rfl⟩
      replace H := H r11 hr25
      refine L_val (v := .int .i64 r11) (y_add (ev_tv rfl rfl) ev_c hr25) ?_
      refine L_val (v := .int .i64 r11) (y_assign (ev_tv rfl rfl)) ?_
      refine l_nil ?_
      refine then_norm ?_
      refine hK24 _ _ ?_
      clear hK24
      refine c_block ?_
      obtain ⟨I26, ⟨m30, HI31⟩, H⟩ := H
      refine loop_fr ([(5, 7), (16, 35)]) (fun m ff ww => ∃ (v12 : Int) (v13 : Int), ff 5 = (.int .i64 v12 : Value) ∧ ff 6 = (.int .i64 v13 : Value) ∧ I26 m v12 v13 ww) m30 ⟨x3, r11, rfl, rfl, HI31⟩ ?_
      rintro m14 f27 w15 hag28 ⟨v12, v13, hs32, hs33, HI29⟩
      replace H := H m14 v12 v13 w15 HI29
      refine c_seq ?_
      intro K34 hK34
      refine c_seq ?_
      intro K35 hK35
      refine c_region ?_
      refine L_val (v := .int .i64 v13) (y_move (ev_tv rfl hs33)) ?_
      refine L_val (v := .slice a_s1 a_s1l a_s1c) (y_move (ev_tv rfl ((hag28 0 rfl).trans rfl))) ?_
      refine L_val (v := .int .i64 ((a_s1l : Nat) : Int)) (y_len Try.underlying40 rfl (map_ev1 (ev_tv rfl rfl))) ?_
      refine L_val (v := .bool (decide ((v13 : Int) < ((a_s1l : Nat) : Int)))) (y_lss (ev_tv rfl rfl) (ev_tv rfl rfl)) ?_
      refine l_nil ?_
      refine then_norm ?_
      refine hK35 _ _ ?_
      clear hK35
      rcases (Decidable.em ((v13 : Int) < ((a_s1l : Nat) : Int))) with hb36 | hb36
      · replace H := H.1 hb36
        have hq37 : Value.bool (decide ((v13 : Int) < ((a_s1l : Nat) : Int))) = Value.bool true := congrArg Value.bool (decide_eq_true hb36)
        refine cond_t (ev_tv rfl hq37) ?_
        refine c_skip ?_
        refine then_norm ?_
        refine hK34 _ _ ?_
        clear hK34
        refine c_seq ?_
        intro K38 hK38
        refine c_block ?_
        refine c_seq ?_
        intro K39 hK39
        refine c_region ?_
        refine L_val (v := .slice a_s1 a_s1l a_s1c) (y_move (ev_tv rfl ((hag28 0 rfl).trans rfl))) ?_
        refine L_val (v := .int .i64 v13) (y_move (ev_tv rfl hs33)) ?_
        obtain ⟨b16, o17, rfl, H⟩ := H
        obtain ⟨hi40, hi41, H⟩ := H
        refine L_val (v := .pointer (some ⟨b16, o17 + (v13 : Int).toNat * 2, none⟩)) (y_ix Try.underlying40 Try.type31 rfl (ev_tv rfl rfl) (ev_tv rfl rfl) hi40 hi41) ?_
        obtain ⟨x18, x19, hc42, H⟩ := H
        refine L_val (v := .agg #[.int .i64 x18, .int .i64 x19]) (y_loadAgg Try.underlying31 rfl Try.type31 rfl (ev_tv rfl rfl) hc42) ?_
        obtain ⟨b20, hb43⟩ : ∃ b20 : Nat, b20 = World.heapSize w15 := ⟨_, rfl⟩
        obtain ⟨w21, hw44⟩ : ∃ w21 : World, w21 = World.alloc w15 (.cells #[.int .i64 0, .int .i64 0] 31) := ⟨_, rfl⟩
        replace H := H b20 w21 hb43 hw44
        refine L_val (v := .pointer (some ⟨b20, 0, none⟩)) (y_alloc Try.type31 rfl rfl hb43 hw44) ?_
        obtain ⟨hc45, H⟩ := H
        obtain ⟨w22, hw47⟩ : ∃ w22 : World, w22 = putCells w21 ⟨b20, 0, none⟩ [.int .i64 x18, .int .i64 x19] 0 := ⟨_, rfl⟩
        replace H := H w22 hw47
        refine L_skip (y_storeAgg Try.type31 rfl (by intro v hv; simp only [List.mem_cons, List.not_mem_nil, or_false] at hv; rcases hv with rfl | rfl <;> rfl) (ev_tv rfl rfl) (ev_tv rfl rfl) hc45 hw47) ?_
        refine l_nil ?_
        refine then_norm ?_
        refine hK39 _ _ ?_
        clear hK39
        refine c_seq ?_
        intro K48 hK48
        refine c_region ?_
        refine L_val (v := a_del2) (y_move (ev_tv rfl ((hag28 1 rfl).trans rfl))) ?_
        obtain ⟨x23, x24, hc49, H⟩ := H
        refine L_val (v := .agg #[.int .i64 x23, .int .i64 x24]) (y_loadAgg Try.underlying31 rfl Try.type31 rfl (ev_tv rfl rfl) hc49) ?_
        obtain ⟨khk64, firsthk64, caphk64, hi65, hk64, H⟩ := H
        refine L_call (y_callv hk64 (map_ev1 (ev_tv rfl rfl)) ((ev_tv rfl rfl).trans hi65)) (Calls.mono H ?_)
        clear H
        rintro _ w26 ⟨x25, rfl, H⟩
        refine ⟨_, rfl, ?_⟩
        rcases Bool.eq_false_or_eq_true x25 with hb50 | hb50
        · replace H := H.1 hb50
          have hq51 : Value.bool (x25) = Value.bool true := congrArg Value.bool hb50
          refine L_val (v := .bool false) (y_not_t (ev_tv rfl hq51)) ?_
          refine l_nil ?_
          refine then_norm ?_
          refine hK48 _ _ ?_
          clear hK48
          refine cond_f (ev_tv rfl rfl) ?_
          refine c_skip ?_
          refine block_norm ?_
          refine then_norm ?_
          refine hK38 _ _ ?_
          clear hK38
          refine c_region ?_
          refine L_val (v := .int .i64 v13) (y_move (ev_tv rfl hs33)) ?_
          obtain ⟨r28, hr52⟩ : ∃ r28 : Int, r28 = IntKind.wrap .i64 (v13 + 1) := ⟨_, rfl⟩
          replace H := H r28 hr52
          refine L_val (v := .int .i64 r28) (y_add (ev_tv rfl rfl) ev_c hr52) ?_
          refine L_val (v := .int .i64 r28) (y_assign (ev_tv rfl rfl)) ?_
          refine l_nil ?_
          refine then_norm ?_
          obtain ⟨m29, hm53, H⟩ := H
          exact ⟨_, rfl, (by repeat (first | exact agree_refl | exact hag28 | refine agree_upd rfl ?_ | refine agree_via hag28 rfl ?_)), m29, hm53, _, _, hs32, rfl, H⟩
        · replace H := H.2 hb50
          have hq51 : Value.bool (x25) = Value.bool false := congrArg Value.bool hb50
          refine L_val (v := .bool true) (y_not_f (ev_tv rfl hq51)) ?_
          refine l_nil ?_
          refine then_norm ?_
          refine hK48 _ _ ?_
          clear hK48
          refine cond_t (ev_tv rfl rfl) ?_
          refine c_seq ?_
          intro K54 hK54
          refine c_region ?_
          refine L_val (v := .slice (some ⟨b16, o17, none⟩) a_s1l a_s1c) (y_move (ev_tv rfl ((hag28 0 rfl).trans rfl))) ?_
          refine L_val (v := .int .i64 v12) (y_move (ev_tv rfl hs32)) ?_
          obtain ⟨x30, x31, hc55, H⟩ := H
          refine L_val (v := .agg #[.int .i64 x30, .int .i64 x31]) (y_loadAgg Try.underlying31 rfl Try.type31 rfl (ev_tv rfl rfl) hc55) ?_
          obtain ⟨hi56, hi57, H⟩ := H
          refine L_val (v := .pointer (some ⟨b16, o17 + (v12 : Int).toNat * 2, none⟩)) (y_ix Try.underlying40 Try.type31 rfl (ev_tv rfl rfl) (ev_tv rfl rfl) hi56 hi57) ?_
          obtain ⟨hc58, H⟩ := H
          obtain ⟨w32, hw60⟩ : ∃ w32 : World, w32 = putCells w26 ⟨b16, o17 + (v12 : Int).toNat * 2, none⟩ [.int .i64 x30, .int .i64 x31] 0 := ⟨_, rfl⟩
          replace H := H w32 hw60
          refine L_skip (y_storeAgg Try.type31 rfl (by intro v hv; simp only [List.mem_cons, List.not_mem_nil, or_false] at hv; rcases hv with rfl | rfl <;> rfl) (ev_tv rfl rfl) (ev_tv rfl rfl) hc58 hw60) ?_
          refine l_nil ?_
          refine then_norm ?_
          refine hK54 _ _ ?_
          clear hK54
          refine c_region ?_
          refine L_val (v := .int .i64 v12) (y_move (ev_tv rfl hs32)) ?_
          obtain ⟨r33, hr61⟩ : ∃ r33 : Int, r33 = IntKind.wrap .i64 (v12 + 1) := ⟨_, rfl⟩
          replace H := H r33 hr61
          refine L_val (v := .int .i64 r33) (y_add (ev_tv rfl rfl) ev_c hr61) ?_
          refine L_val (v := .int .i64 r33) (y_assign (ev_tv rfl rfl)) ?_
          refine l_nil ?_
          refine block_norm ?_
          refine then_norm ?_
          refine hK38 _ _ ?_
          clear hK38
          refine c_region ?_
          refine L_val (v := .int .i64 v13) (y_move (ev_tv rfl hs33)) ?_
          obtain ⟨r34, hr62⟩ : ∃ r34 : Int, r34 = IntKind.wrap .i64 (v13 + 1) := ⟨_, rfl⟩
          replace H := H r34 hr62
          refine L_val (v := .int .i64 r34) (y_add (ev_tv rfl rfl) ev_c hr62) ?_
          refine L_val (v := .int .i64 r34) (y_assign (ev_tv rfl rfl)) ?_
          refine l_nil ?_
          refine then_norm ?_
          obtain ⟨m35, hm63, H⟩ := H
          exact ⟨_, rfl, (by repeat (first | exact agree_refl | exact hag28 | refine agree_upd rfl ?_ | refine agree_via hag28 rfl ?_)), m35, hm63, _, _, rfl, rfl, H⟩
      · replace H := H.2 hb36
        have hq37 : Value.bool (decide ((v13 : Int) < ((a_s1l : Nat) : Int))) = Value.bool false := congrArg Value.bool (decide_eq_false hb36)
        refine cond_f (ev_tv rfl hq37) ?_
        refine c_exit ?_
        refine then_exit ?_
        refine then_exit ?_
        refine block_hit ?_
        refine then_norm ?_
        exact hK13 _ _ (by repeat (first | exact agree_refl | exact hag28 | refine agree_upd rfl ?_ | refine agree_via hag28 rfl ?_)) ⟨_, hs32, H⟩
    · clear H
      rintro f10 w7 hag11 ⟨v6, hs14, HJ12⟩
      have H := hJ9 v6 w7 HJ12
      clear hJ9
      refine c_seq ?_
      intro K15 hK15
      refine c_region ?_
      refine L_val (v := .slice a_s1 a_s1l a_s1c) (y_move (ev_tv rfl ((hag11 0 rfl).trans rfl))) ?_
      refine L_val (v := .int .i64 v6) (y_move (ev_tv rfl hs14)) ?_
      obtain ⟨hi17, hi18, H⟩ := H
      obtain ⟨a8, ha16⟩ : ∃ a8 : Option Addr, a8 = subA a_s1 2 a_s1c (v6 : Int).toNat := ⟨_, rfl⟩
      replace H := H a8 ha16
      refine L_val (v := .slice a8 (a_s1l - (v6 : Int).toNat) (a_s1c - (v6 : Int).toNat)) (y_sliceL Try.underlying40 Try.type31 rfl (ev_tv rfl rfl) (ev_tv rfl rfl) hi17 hi18 ha16) ?_
      obtain ⟨w9, hc19, H⟩ := H
      refine L_valn (v := .tuple #[]) (y_bi_clear (map_ev1 (ev_tv rfl rfl)) hc19) ?_
      refine l_nil ?_
      refine then_norm ?_
      refine hK15 _ _ ?_
      clear hK15
      refine c_seq ?_
      intro K20 hK20
      refine c_region ?_
      refine L_val (v := .slice a_s1 a_s1l a_s1c) (y_move (ev_tv rfl ((hag11 0 rfl).trans rfl))) ?_
      refine L_val (v := .int .i64 v6) (y_move (ev_tv rfl hs14)) ?_
      obtain ⟨hi22, hi23, H⟩ := H
      obtain ⟨a10, ha21⟩ : ∃ a10 : Option Addr, a10 = a_s1 := ⟨_, rfl⟩
      replace H := H a10 ha21
      refine L_val (v := .slice a10 ((v6 : Int).toNat) a_s1c) (y_sliceH Try.underlying40 Try.type31 (ev_tv rfl rfl) (ev_tv rfl rfl) hi22 hi23 ha21) ?_
      refine L_val (v := .slice a10 ((v6 : Int).toNat) a_s1c) (y_assign (ev_tv rfl rfl)) ?_
      refine l_nil ?_
      refine then_norm ?_
      refine hK20 _ _ ?_
      clear hK20
      refine c_ret ?_
      exact body_1 rfl (ev_tv rfl rfl) H

/-- (parapet/tlb.hart).forget$1 -/
def Vc38 (a_k1 : Int) (a_k2 : Int) (fv3 : Option Addr) (w : World) (R : Ending → World → Prop) : Prop :=
  (∀ (b4 : Nat) (w5 : World), b4 = World.heapSize w → w5 = World.alloc w (.cells #[.int .i64 a_k1, .int .i64 a_k2] 31) → (∃ x6 : Int, World.cell? w5 ⟨b4, 0, none⟩ = some (.int .i64 x6) ∧ (∃ (b7 o8 : Nat), fv3 = some ⟨b7, o8, none⟩ ∧ (∃ x9 : Int, World.cell? w5 ⟨b7, o8, none⟩ = some (.int .i64 x9) ∧ R (.returned (.bool (decide ((x6 : Int) = x9)))) w5))))

theorem vc38 {a_k1 : Int} {a_k2 : Int} {fv3 : Option Addr} {w : World} {R : Ending → World → Prop} (H : Vc38 a_k1 a_k2 fv3 w R) : Calls Try.prog 38 #[.agg #[.int .i64 a_k1, .int .i64 a_k2], .pointer fv3] w R := by
  unfold Vc38 at H
  refine calls_start [.agg #[.int .i64 a_k1, .int .i64 a_k2], .pointer fv3] Try.func38 rfl Try.ntmps38 rfl ?_
  refine c_seq ?_
  intro K1 hK1
  refine c_region ?_
  obtain ⟨b4, hb2⟩ : ∃ b4 : Nat, b4 = World.heapSize w := ⟨_, rfl⟩
  obtain ⟨w5, hw3⟩ : ∃ w5 : World, w5 = World.alloc w (.cells #[.int .i64 a_k1, .int .i64 a_k2] 31) := ⟨_, rfl⟩
  replace H := H b4 w5 hb2 hw3
  refine L_val (v := .pointer (some ⟨b4, 0, none⟩)) (y_box (ev_tv rfl rfl) rfl hb2 hw3) ?_
  refine L_val (v := .bool false) (y_assign ev_c) ?_
  refine l_nil ?_
  refine then_norm ?_
  refine hK1 _ _ ?_
  clear hK1
  refine c_seq ?_
  intro K4 hK4
  refine c_region ?_
  refine L_val (v := .pointer (some ⟨b4, 0, none⟩)) (Try.fa31_0 (ev_tv rfl rfl)) ?_
  obtain ⟨x6, hc5, H⟩ := H
  refine L_val (v := .int .i64 x6) (y_load Try.underlying3 rfl (ev_tv rfl rfl) hc5) ?_
  obtain ⟨b7, o8, rfl, H⟩ := H
  obtain ⟨x9, hc6, H⟩ := H
  refine L_val (v := .int .i64 x9) (y_load Try.underlying3 rfl (ev_tv rfl rfl) hc6) ?_
  refine L_val (v := .bool (decide ((x6 : Int) = x9))) (y_ieq (ev_tv rfl rfl) (ev_tv rfl rfl)) ?_
  refine L_val (v := .bool (decide ((x6 : Int) = x9))) (y_assign (ev_tv rfl rfl)) ?_
  refine l_nil ?_
  refine then_norm ?_
  refine hK4 _ _ ?_
  clear hK4
  refine c_ret ?_
  exact body_1 rfl (ev_tv rfl rfl) H

/-- maps.DeleteFunc[map[parapet/api.Key]uint32,parapet/api.Key,uint32] -/
def Vc39 (a_m1 : Option Nat) (a_del2 : Value) (w : World) (R : Ending → World → Prop) : Prop :=
  (∃ x4 : Option Addr, ∃ w3 : World, (Instr.range 57 (.map a_m1)).run Try.prog w = .ok (.pointer x4) w3 ∧ (∃ I3 : Nat → World → Prop, (∃ m, I3 m  w3) ∧ ∀ (m5 : Nat)  (w6 : World), I3 m5  w6 → (∃ nb7 : Bool, ∃ nv8 : Value, ∃ w9 : World, (Instr.next (.pointer x4) false 0).run Try.prog w6 = .ok nv8 w9 ∧ (∀ w' : World, (Instr.extract nv8 0).run Try.prog w' = .ok (.bool nb7) w') ∧ (((nb7 = true) → (∃ x10 : Int, ∃ x11 : Int, ∃ x12 : Int, (Instr.entry (.pointer x4)).run Try.prog w9 = .ok (.tuple #[.agg #[.int .i64 x10, .int .i64 x11], .int .u32 x12]) w9 ∧ (∀ (b13 : Nat) (w14 : World), b13 = World.heapSize w9 → w14 = World.alloc w9 (.cells #[.int .i64 0, .int .i64 0] 31) → ((∀ j, j < 2 → (World.cell? w14 (Addr.add ⟨b13, 0, none⟩ j)).isSome = true ∧ World.frozen? w14 (Addr.add ⟨b13, 0, none⟩ j) = false) ∧ ∀ w15 : World, w15 = putCells w14 ⟨b13, 0, none⟩ [.int .i64 x10, .int .i64 x11] 0 → (∃ x16 : Int, ∃ x17 : Int, CellsAt w15 ⟨b13, 0, none⟩ [.int .i64 x16, .int .i64 x17] ∧ (Invoke Try.prog a_del2 #[.agg #[.int .i64 x16, .int .i64 x17], .int .u32 x12] w15 fun e w19 => ∃ x18 : Bool, e = .returned (.bool x18) ∧ (((x18 = true) → (∃ x21 : Int, ∃ x22 : Int, CellsAt w19 ⟨b13, 0, none⟩ [.int .i64 x21, .int .i64 x22] ∧ (∃ w23 : World, (Builtin.delete_ #[57, 31] 0 #[.map a_m1, .agg #[.int .i64 x21, .int .i64 x22]]).run Try.prog w19 = .ok (.tuple #[]) w23 ∧ (∃ m24, m24 < m5 ∧ I3 m24  w23)))) ∧ ((x18 = false) → (∃ m25, m25 < m5 ∧ I3 m25  w19))))))))) ∧ ((nb7 = false) → R (.returned (.tuple #[])) w9)))))

theorem vc39 {a_m1 : Option Nat} {a_del2 : Value} {w : World} {R : Ending → World → Prop} (H : Vc39 a_m1 a_del2 w R) : Calls Try.prog 39 #[.map a_m1, a_del2] w R := by
  unfold Vc39 at H
  refine calls_start [.map a_m1, a_del2] Try.func39 rfl Try.ntmps39 rfl ?_
  refine c_seq ?_
  intro K1 hK1
  refine c_region ?_
  refine L_val (v := .map a_m1) (y_move (ev_tv rfl rfl)) ?_
  obtain ⟨x4, w3, hc2, H⟩ := H
  refine L_val (v := .pointer x4) (y_range (ev_tv rfl rfl) hc2) ?_
  refine l_nil ?_
  refine then_norm ?_
  refine hK1 _ _ ?_
  clear hK1
  refine c_block ?_
  obtain ⟨I3, ⟨m7, HI8⟩, H⟩ := H
  refine loop_fr ([(4, 5), (8, 18)]) (fun m ff ww => I3 m  ww) m7 HI8 ?_
  intro m5 f4 w6 hag5 HI6
  replace H := H m5  w6 HI6
  refine c_seq ?_
  intro K9 hK9
  refine c_region ?_
  obtain ⟨nb7, nv8, w9, hc10, hn11, H⟩ := H
  refine L_val (v := nv8) (y_next (ev_tv rfl ((hag5 7 rfl).trans rfl)) hc10) ?_
  refine L_val (v := .bool nb7) (y_extractV (ev_tv rfl rfl) (hn11 _)) ?_
  refine l_nil ?_
  refine then_norm ?_
  refine hK9 _ _ ?_
  clear hK9
  refine c_seq ?_
  intro K12 hK12
  rcases Bool.eq_false_or_eq_true nb7 with hb13 | hb13
  · replace H := H.1 hb13
    have hq14 : Value.bool (nb7) = Value.bool true := congrArg Value.bool hb13
    refine cond_t (ev_tv rfl hq14) ?_
    refine c_skip ?_
    refine then_norm ?_
    refine hK12 _ _ ?_
    clear hK12
    refine c_block ?_
    refine c_seq ?_
    intro K15 hK15
    refine c_region ?_
    obtain ⟨x10, x11, x12, hc16, H⟩ := H
    refine L_val (v := .tuple #[.agg #[.int .i64 x10, .int .i64 x11], .int .u32 x12]) (y_entry (ev_tv rfl ((hag5 7 rfl).trans rfl)) hc16) ?_
    refine L_val (v := .agg #[.int .i64 x10, .int .i64 x11]) (y_extract (ev_tv rfl rfl) rfl) ?_
    refine L_val (v := .int .u32 x12) (y_extract (ev_tv rfl rfl) rfl) ?_
    obtain ⟨b13, hb17⟩ : ∃ b13 : Nat, b13 = World.heapSize w9 := ⟨_, rfl⟩
    obtain ⟨w14, hw18⟩ : ∃ w14 : World, w14 = World.alloc w9 (.cells #[.int .i64 0, .int .i64 0] 31) := ⟨_, rfl⟩
    replace H := H b13 w14 hb17 hw18
    refine L_val (v := .pointer (some ⟨b13, 0, none⟩)) (y_alloc Try.type31 rfl rfl hb17 hw18) ?_
    obtain ⟨hc19, H⟩ := H
    obtain ⟨w15, hw21⟩ : ∃ w15 : World, w15 = putCells w14 ⟨b13, 0, none⟩ [.int .i64 x10, .int .i64 x11] 0 := ⟨_, rfl⟩
    replace H := H w15 hw21
    refine L_skip (y_storeAgg Try.type31 rfl (by intro v hv; simp only [List.mem_cons, List.not_mem_nil, or_false] at hv; rcases hv with rfl | rfl <;> rfl) (ev_tv rfl rfl) (ev_tv rfl rfl) hc19 hw21) ?_
    refine L_val (v := .int .u32 x12) (y_assign (ev_tv rfl rfl)) ?_
    refine l_nil ?_
    refine then_norm ?_
    refine hK15 _ _ ?_
    clear hK15
    refine c_seq ?_
    intro K22 hK22
    refine c_region ?_
    refine L_val (v := a_del2) (y_move (ev_tv rfl ((hag5 1 rfl).trans rfl))) ?_
    obtain ⟨x16, x17, hc23, H⟩ := H
    refine L_val (v := .agg #[.int .i64 x16, .int .i64 x17]) (y_loadAgg Try.underlying31 rfl Try.type31 rfl (ev_tv rfl rfl) hc23) ?_
    refine L_val (v := .int .u32 x12) (y_move (ev_tv rfl rfl)) ?_
    obtain ⟨khk30, firsthk30, caphk30, hi31, hk30, H⟩ := H
    refine L_call (y_callv hk30 (map_ev2 (ev_tv rfl rfl) (ev_tv rfl rfl)) ((ev_tv rfl rfl).trans hi31)) (Calls.mono H ?_)
    clear H
    rintro _ w19 ⟨x18, rfl, H⟩
    refine ⟨_, rfl, ?_⟩
    refine l_nil ?_
    refine then_norm ?_
    refine hK22 _ _ ?_
    clear hK22
    rcases Bool.eq_false_or_eq_true x18 with hb24 | hb24
    · replace H := H.1 hb24
      have hq25 : Value.bool (x18) = Value.bool true := congrArg Value.bool hb24
      refine cond_t (ev_tv rfl hq25) ?_
      refine c_region ?_
      refine L_val (v := .map a_m1) (y_move (ev_tv rfl ((hag5 0 rfl).trans rfl))) ?_
      obtain ⟨x21, x22, hc26, H⟩ := H
      refine L_val (v := .agg #[.int .i64 x21, .int .i64 x22]) (y_loadAgg Try.underlying31 rfl Try.type31 rfl (ev_tv rfl rfl) hc26) ?_
      obtain ⟨w23, hc27, H⟩ := H
      refine L_valn (v := .tuple #[]) (y_bi_delete (map_ev2 (ev_tv rfl rfl) (ev_tv rfl rfl)) hc27) ?_
      refine l_nil ?_
      refine block_norm ?_
      refine then_norm ?_
      obtain ⟨m24, hm28, H⟩ := H
      exact ⟨_, rfl, (by repeat (first | exact agree_refl | exact hag5 | refine agree_upd rfl ?_ | refine agree_via hag5 rfl ?_)), m24, hm28, H⟩
    · replace H := H.2 hb24
      have hq25 : Value.bool (x18) = Value.bool false := congrArg Value.bool hb24
      refine cond_f (ev_tv rfl hq25) ?_
      refine c_skip ?_
      refine block_norm ?_
      refine then_norm ?_
      obtain ⟨m25, hm29, H⟩ := H
      exact ⟨_, rfl, (by repeat (first | exact agree_refl | exact hag5 | refine agree_upd rfl ?_ | refine agree_via hag5 rfl ?_)), m25, hm29, H⟩
  · replace H := H.2 hb13
    have hq14 : Value.bool (nb7) = Value.bool false := congrArg Value.bool hb13
    refine cond_f (ev_tv rfl hq14) ?_
    refine c_exit ?_
    refine then_exit ?_
    refine then_exit ?_
    refine block_hit ?_
    refine body_norm ?_
    exact body_0 rfl H

/-- (parapet/tlb.hart).forget$2 -/
def Vc40 (a_k1 : Int) (a_k2 : Int) (a_p13 : Int) (fv4 : Option Addr) (w : World) (R : Ending → World → Prop) : Prop :=
  (∀ (b5 : Nat) (w6 : World), b5 = World.heapSize w → w6 = World.alloc w (.cells #[.int .i64 a_k1, .int .i64 a_k2] 31) → (∃ x7 : Int, World.cell? w6 ⟨b5, 0, none⟩ = some (.int .i64 x7) ∧ (∃ (b8 o9 : Nat), fv4 = some ⟨b8, o9, none⟩ ∧ (∃ x10 : Int, World.cell? w6 ⟨b8, o9, none⟩ = some (.int .i64 x10) ∧ R (.returned (.bool (decide ((x7 : Int) = x10)))) w6))))

theorem vc40 {a_k1 : Int} {a_k2 : Int} {a_p13 : Int} {fv4 : Option Addr} {w : World} {R : Ending → World → Prop} (H : Vc40 a_k1 a_k2 a_p13 fv4 w R) : Calls Try.prog 40 #[.agg #[.int .i64 a_k1, .int .i64 a_k2], .int .u32 a_p13, .pointer fv4] w R := by
  unfold Vc40 at H
  refine calls_start [.agg #[.int .i64 a_k1, .int .i64 a_k2], .int .u32 a_p13, .pointer fv4] Try.func40 rfl Try.ntmps40 rfl ?_
  refine c_seq ?_
  intro K1 hK1
  refine c_region ?_
  obtain ⟨b5, hb2⟩ : ∃ b5 : Nat, b5 = World.heapSize w := ⟨_, rfl⟩
  obtain ⟨w6, hw3⟩ : ∃ w6 : World, w6 = World.alloc w (.cells #[.int .i64 a_k1, .int .i64 a_k2] 31) := ⟨_, rfl⟩
  replace H := H b5 w6 hb2 hw3
  refine L_val (v := .pointer (some ⟨b5, 0, none⟩)) (y_box (ev_tv rfl rfl) rfl hb2 hw3) ?_
  refine L_val (v := .bool false) (y_assign ev_c) ?_
  refine l_nil ?_
  refine then_norm ?_
  refine hK1 _ _ ?_
  clear hK1
  refine c_seq ?_
  intro K4 hK4
  refine c_region ?_
  refine L_val (v := .pointer (some ⟨b5, 0, none⟩)) (Try.fa31_0 (ev_tv rfl rfl)) ?_
  obtain ⟨x7, hc5, H⟩ := H
  refine L_val (v := .int .i64 x7) (y_load Try.underlying3 rfl (ev_tv rfl rfl) hc5) ?_
  obtain ⟨b8, o9, rfl, H⟩ := H
  obtain ⟨x10, hc6, H⟩ := H
  refine L_val (v := .int .i64 x10) (y_load Try.underlying3 rfl (ev_tv rfl rfl) hc6) ?_
  refine L_val (v := .bool (decide ((x7 : Int) = x10))) (y_ieq (ev_tv rfl rfl) (ev_tv rfl rfl)) ?_
  refine L_val (v := .bool (decide ((x7 : Int) = x10))) (y_assign (ev_tv rfl rfl)) ?_
  refine l_nil ?_
  refine then_norm ?_
  refine hK4 _ _ ?_
  clear hK4
  refine c_ret ?_
  exact body_1 rfl (ev_tv rfl rfl) H

/-- (parapet/parapetref07.Tlb).hart -/
def Vc41 (a_t1 : Option Addr) (a_h2 : Int) (w : World) (R : Ending → World → Prop) : Prop :=
  ((((0 : Int) ≤ a_h2) → (∃ (b3 o4 : Nat), a_t1 = some ⟨b3, o4, none⟩ ∧ (∃ x5 : Option Addr, ∃ x5l : Nat, ∃ x5c : Nat, World.cell? w ⟨b3, o4 + 1, none⟩ = some (.slice x5 x5l x5c) ∧ R (.returned (.bool (decide ((a_h2 : Int) < ((x5l : Nat) : Int))))) w))) ∧ ((¬ ((0 : Int) ≤ a_h2)) → R (.returned (.bool false)) w))

theorem vc41 {a_t1 : Option Addr} {a_h2 : Int} {w : World} {R : Ending → World → Prop} (H : Vc41 a_t1 a_h2 w R) : Calls Try.prog 41 #[.pointer a_t1, .int .i64 a_h2] w R := by
  unfold Vc41 at H
  refine calls_start [.pointer a_t1, .int .i64 a_h2] Try.func41 rfl Try.ntmps41 rfl ?_
  refine c_seq ?_
  intro K1 hK1
  refine c_region ?_
  refine L_val (v := .bool false) (y_assign ev_c) ?_
  refine l_nil ?_
  refine then_norm ?_
  refine hK1 _ _ ?_
  clear hK1
  refine c_seq ?_
  intro K2 hK2
  refine c_region ?_
  refine L_val (v := .int .i64 a_h2) (y_move (ev_tv rfl rfl)) ?_
  refine L_val (v := .bool (decide ((0 : Int) ≤ a_h2))) (y_geq (ev_tv rfl rfl) ev_c) ?_
  refine L_val (v := .bool (decide ((0 : Int) ≤ a_h2))) (y_move (ev_tv rfl rfl)) ?_
  rcases (Decidable.em ((0 : Int) ≤ a_h2)) with hb3 | hb3
  · replace H := H.1 hb3
    have hq4 : Value.bool (decide ((0 : Int) ≤ a_h2)) = Value.bool true := congrArg Value.bool (decide_eq_true hb3)
    refine G_val (dj := 7) rfl rfl hq4 (v := .int .i64 a_h2) (y_move (ev_tv rfl rfl)) ?_
    refine G_val (dj := 7) rfl rfl hq4 (v := .pointer a_t1) (y_move (ev_tv rfl rfl)) ?_
    obtain ⟨b3, o4, rfl, H⟩ := H
    refine G_val (dj := 7) rfl rfl hq4 (v := .pointer (some ⟨b3, o4, none⟩)) (y_nilCheck (ev_tv rfl rfl)) ?_
    refine G_val (dj := 7) rfl rfl hq4 (v := .pointer (some ⟨b3, o4 + 1, none⟩)) (Try.fa71_1 (ev_tv rfl rfl)) ?_
    obtain ⟨x5, x5l, x5c, hc5, H⟩ := H
    refine G_val (dj := 7) rfl rfl hq4 (v := .slice x5 x5l x5c) (y_load Try.underlying68 rfl (ev_tv rfl rfl) hc5) ?_
    refine G_val (dj := 7) rfl rfl hq4 (v := .int .i64 ((x5l : Nat) : Int)) (y_len Try.underlying68 rfl (map_ev1 (ev_tv rfl rfl))) ?_
    refine G_val (dj := 7) rfl rfl hq4 (v := .bool (decide ((a_h2 : Int) < ((x5l : Nat) : Int)))) (y_lss (ev_tv rfl rfl) (ev_tv rfl rfl)) ?_
    refine L_val (v := .bool (decide ((a_h2 : Int) < ((x5l : Nat) : Int)))) (y_pick_t (ev_tv rfl hq4) (ev_tv rfl rfl)) ?_
    refine L_val (v := .bool (decide ((a_h2 : Int) < ((x5l : Nat) : Int)))) (y_assign (ev_tv rfl rfl)) ?_
    refine l_nil ?_
    refine then_norm ?_
    refine hK2 _ _ ?_
    clear hK2
    refine c_ret ?_
    exact body_1 rfl (ev_tv rfl rfl) H
  · replace H := H.2 hb3
    have hq4 : Value.bool (decide ((0 : Int) ≤ a_h2)) = Value.bool false := congrArg Value.bool (decide_eq_false hb3)
    refine G_not (b' := false) (dj := 7) rfl rfl hq4 rfl ?_
    refine G_not (b' := false) (dj := 7) rfl rfl hq4 rfl ?_
    refine G_not (b' := false) (dj := 7) rfl rfl hq4 rfl ?_
    refine G_not (b' := false) (dj := 7) rfl rfl hq4 rfl ?_
    refine G_not (b' := false) (dj := 7) rfl rfl hq4 rfl ?_
    refine G_not (b' := false) (dj := 7) rfl rfl hq4 rfl ?_
    refine G_not (b' := false) (dj := 7) rfl rfl hq4 rfl ?_
    refine L_val (v := .bool false) (y_pick_f (ev_tv rfl hq4) ev_c) ?_
    refine L_val (v := .bool false) (y_assign (ev_tv rfl rfl)) ?_
    refine l_nil ?_
    refine then_norm ?_
    refine hK2 _ _ ?_
    clear hK2
    refine c_ret ?_
    exact body_1 rfl (ev_tv rfl rfl) H

/-- parapet/parapetref07.has -/
def Vc42 (a_l1 : Option Addr) (a_l1l : Nat) (a_l1c : Nat) (a_h2 : Int) (w : World) (R : Ending → World → Prop) : Prop :=
  (∃ I4 : Nat → Int → World → Prop, (∃ m, I4 m 0 w) ∧ ∀ (m4 : Nat) (v3 : Int) (w5 : World), I4 m4 v3 w5 → ((((v3 : Int) < ((a_l1l : Nat) : Int)) → (∃ (b6 o7 : Nat), a_l1 = some ⟨b6, o7, none⟩ ∧ ((0 : Int) ≤ v3 ∧ v3 < ((a_l1l : Nat) : Int) ∧ (∃ x8 : Int, World.cell? w5 ⟨b6, o7 + (v3 : Int).toNat, none⟩ = some (.int .i64 x8) ∧ ((((x8 : Int) = a_h2) → R (.returned (.bool true)) w5) ∧ ((¬ ((x8 : Int) = a_h2)) → (∀ r9 : Int, r9 = IntKind.wrap .i64 (v3 + 1) → (∃ m10, m10 < m4 ∧ I4 m10 r9 w5)))))))) ∧ ((¬ ((v3 : Int) < ((a_l1l : Nat) : Int))) → R (.returned (.bool false)) w5)))

theorem vc42 {a_l1 : Option Addr} {a_l1l : Nat} {a_l1c : Nat} {a_h2 : Int} {w : World} {R : Ending → World → Prop} (H : Vc42 a_l1 a_l1l a_l1c a_h2 w R) : Calls Try.prog 42 #[.slice a_l1 a_l1l a_l1c, .int .i64 a_h2] w R := by
  unfold Vc42 at H
  refine calls_start [.slice a_l1 a_l1l a_l1c, .int .i64 a_h2] Try.func42 rfl Try.ntmps42 rfl ?_
  refine c_seq ?_
  intro K1 hK1
  refine c_region ?_
  refine L_val (v := .bool false) (y_assign ev_c) ?_
  refine l_nil ?_
  refine then_norm ?_
  refine hK1 _ _ ?_
  clear hK1
  refine c_seq ?_
  intro K2 hK2
  refine c_seq ?_
  intro K3 hK3
  refine c_region ?_
  refine L_val (v := .int .i64 0) (y_assign ev_c) ?_
  refine l_nil ?_
  refine then_norm ?_
  refine hK3 _ _ ?_
  clear hK3
  refine c_block ?_
  obtain ⟨I4, ⟨m8, HI9⟩, H⟩ := H
  refine loop_fr ([(4, 17)]) (fun m ff ww => ∃ (v3 : Int), ff 5 = (.int .i64 v3 : Value) ∧ I4 m v3 ww) m8 ⟨0, rfl, HI9⟩ ?_
  rintro m4 f5 w5 hag6 ⟨v3, hs10, HI7⟩
  replace H := H m4 v3 w5 HI7
  refine c_seq ?_
  intro K11 hK11
  refine c_seq ?_
  intro K12 hK12
  refine c_region ?_
  refine L_val (v := .int .i64 v3) (y_move (ev_tv rfl hs10)) ?_
  refine L_val (v := .slice a_l1 a_l1l a_l1c) (y_move (ev_tv rfl ((hag6 0 rfl).trans rfl))) ?_
  refine L_val (v := .int .i64 ((a_l1l : Nat) : Int)) (y_len Try.underlying23 rfl (map_ev1 (ev_tv rfl rfl))) ?_
  refine L_val (v := .bool (decide ((v3 : Int) < ((a_l1l : Nat) : Int)))) (y_lss (ev_tv rfl rfl) (ev_tv rfl rfl)) ?_
  refine l_nil ?_
  refine then_norm ?_
  refine hK12 _ _ ?_
  clear hK12
  rcases (Decidable.em ((v3 : Int) < ((a_l1l : Nat) : Int))) with hb13 | hb13
  · replace H := H.1 hb13
    have hq14 : Value.bool (decide ((v3 : Int) < ((a_l1l : Nat) : Int))) = Value.bool true := congrArg Value.bool (decide_eq_true hb13)
    refine cond_t (ev_tv rfl hq14) ?_
    refine c_skip ?_
    refine then_norm ?_
    refine hK11 _ _ ?_
    clear hK11
    refine c_seq ?_
    intro K15 hK15
    refine c_block ?_
    refine c_seq ?_
    intro K16 hK16
    refine c_region ?_
    refine L_val (v := .slice a_l1 a_l1l a_l1c) (y_move (ev_tv rfl ((hag6 0 rfl).trans rfl))) ?_
    refine L_val (v := .int .i64 v3) (y_move (ev_tv rfl hs10)) ?_
    obtain ⟨b6, o7, rfl, H⟩ := H
    obtain ⟨hi17, hi18, H⟩ := H
    refine L_val (v := .pointer (some ⟨b6, o7 + (v3 : Int).toNat, none⟩)) (y_ix1 Try.underlying23 Try.type3 rfl (ev_tv rfl rfl) (ev_tv rfl rfl) hi17 hi18) ?_
    obtain ⟨x8, hc19, H⟩ := H
    refine L_val (v := .int .i64 x8) (y_load Try.underlying3 rfl (ev_tv rfl rfl) hc19) ?_
    refine L_val (v := .int .i64 a_h2) (y_move (ev_tv rfl ((hag6 1 rfl).trans rfl))) ?_
    refine L_val (v := .bool (decide ((x8 : Int) = a_h2))) (y_ieq (ev_tv rfl rfl) (ev_tv rfl rfl)) ?_
    refine l_nil ?_
    refine then_norm ?_
    refine hK16 _ _ ?_
    clear hK16
    rcases (Decidable.em ((x8 : Int) = a_h2)) with hb20 | hb20
    · replace H := H.1 hb20
      have hq21 : Value.bool (decide ((x8 : Int) = a_h2)) = Value.bool true := congrArg Value.bool (decide_eq_true hb20)
      refine cond_t (ev_tv rfl hq21) ?_
      refine c_seq ?_
      intro K22 hK22
      refine c_region ?_
      refine L_val (v := .bool true) (y_assign ev_c) ?_
      refine l_nil ?_
      refine then_norm ?_
      refine hK22 _ _ ?_
      clear hK22
      refine c_ret ?_
      refine block_ret ?_
      refine then_ret ?_
      refine then_ret ?_
      refine block_ret ?_
      refine then_ret ?_
      exact body_1 rfl (ev_tv rfl rfl) H
    · replace H := H.2 hb20
      have hq21 : Value.bool (decide ((x8 : Int) = a_h2)) = Value.bool false := congrArg Value.bool (decide_eq_false hb20)
      refine cond_f (ev_tv rfl hq21) ?_
      refine c_skip ?_
      refine block_norm ?_
      refine then_norm ?_
      refine hK15 _ _ ?_
      clear hK15
      refine c_region ?_
      refine L_val (v := .int .i64 v3) (y_move (ev_tv rfl hs10)) ?_
      obtain ⟨r9, hr23⟩ : ∃ r9 : Int, r9 = IntKind.wrap .i64 (v3 + 1) := ⟨_, rfl⟩
      replace H := H r9 hr23
      refine L_val (v := .int .i64 r9) (y_add (ev_tv rfl rfl) ev_c hr23) ?_
      refine L_val (v := .int .i64 r9) (y_assign (ev_tv rfl rfl)) ?_
      refine l_nil ?_
      refine then_norm ?_
      obtain ⟨m10, hm24, H⟩ := H
      exact ⟨_, rfl, (by repeat (first | exact agree_refl | exact hag6 | refine agree_upd rfl ?_ | refine agree_via hag6 rfl ?_)), m10, hm24, _, rfl, H⟩
  · replace H := H.2 hb13
    have hq14 : Value.bool (decide ((v3 : Int) < ((a_l1l : Nat) : Int))) = Value.bool false := congrArg Value.bool (decide_eq_false hb13)
    refine cond_f (ev_tv rfl hq14) ?_
    refine c_exit ?_
    refine then_exit ?_
    refine then_exit ?_
    refine block_hit ?_
    refine then_norm ?_
    refine hK2 _ _ ?_
    clear hK2
    refine c_seq ?_
    intro K25 hK25
    refine c_region ?_
    refine L_val (v := .bool false) (y_assign ev_c) ?_
    refine l_nil ?_
    refine then_norm ?_
    refine hK25 _ _ ?_
    clear hK25
    refine c_ret ?_
    exact body_1 rfl (ev_tv rfl rfl) H

/-- slices.IndexFunc[[]parapet/api.Key,parapet/api.Key] -/
def Vc54 (a_s1 : Option Addr) (a_s1l : Nat) (a_s1c : Nat) (a_f2 : Value) (w : World) (R : Ending → World → Prop) : Prop :=
  (∃ I4 : Nat → Int → World → Prop, (∃ m, I4 m 0 w) ∧ ∀ (m4 : Nat) (v3 : Int) (w5 : World), I4 m4 v3 w5 → ((((v3 : Int) < ((a_s1l : Nat) : Int)) → (∃ (b6 o7 : Nat), a_s1 = some ⟨b6, o7, none⟩ ∧ ((0 : Int) ≤ v3 ∧ v3 < ((a_s1l : Nat) : Int) ∧ (∃ x8 : Int, ∃ x9 : Int, CellsAt w5 ⟨b6, o7 + (v3 : Int).toNat * 2, none⟩ [.int .i64 x8, .int .i64 x9] ∧ (Invoke Try.prog a_f2 #[.agg #[.int .i64 x8, .int .i64 x9]] w5 fun e w11 => ∃ x10 : Bool, e = .returned (.bool x10) ∧ (((x10 = true) → R (.returned (.int .i64 v3)) w11) ∧ ((x10 = false) → (∀ r13 : Int, r13 = IntKind.wrap .i64 (v3 + 1) → (∃ m14, m14 < m4 ∧ I4 m14 r13 w11))))))))) ∧ ((¬ ((v3 : Int) < ((a_s1l : Nat) : Int))) → R (.returned (.int .i64 (-1))) w5)))

theorem vc54 {a_s1 : Option Addr} {a_s1l : Nat} {a_s1c : Nat} {a_f2 : Value} {w : World} {R : Ending → World → Prop} (H : Vc54 a_s1 a_s1l a_s1c a_f2 w R) : Calls Try.prog 54 #[.slice a_s1 a_s1l a_s1c, a_f2] w R := by
  unfold Vc54 at H
  refine calls_start [.slice a_s1 a_s1l a_s1c, a_f2] Try.func54 rfl Try.ntmps54 rfl ?_
  refine c_seq ?_
  intro K1 hK1
  refine c_region ?_
  refine L_val (v := .int .i64 0) (y_assign ev_c) ?_
  refine l_nil ?_
  refine then_norm ?_
  refine hK1 _ _ ?_
  clear hK1
  refine c_seq ?_
  intro K2 hK2
  refine c_seq ?_
  intro K3 hK3
  refine c_region ?_
  refine L_val (v := .slice a_s1 a_s1l a_s1c) (y_move (ev_tv rfl rfl)) ?_
  refine L_val (v := .int .i64 ((a_s1l : Nat) : Int)) (y_len Try.underlying40 rfl (map_ev1 (ev_tv rfl rfl))) ?_
  refine L_val (v := .int .i64 0) (y_move ev_c) ?_
  refine l_nil ?_
  refine then_norm ?_
  refine hK3 _ _ ?_
  clear hK3
  refine c_block ?_
  obtain ⟨I4, ⟨m8, HI9⟩, H⟩ := H
  refine loop_fr ([(4, 5), (8, 18)]) (fun m ff ww => ∃ (v3 : Int), ff 8 = (.int .i64 v3 : Value) ∧ I4 m v3 ww) m8 ⟨0, rfl, HI9⟩ ?_
  rintro m4 f5 w5 hag6 ⟨v3, hs10, HI7⟩
  replace H := H m4 v3 w5 HI7
  refine c_seq ?_
  intro K11 hK11
  refine c_region ?_
  refine L_val (v := .bool (decide ((v3 : Int) < ((a_s1l : Nat) : Int)))) (y_lss (ev_tv rfl hs10) (ev_tv rfl ((hag6 7 rfl).trans rfl))) ?_
  refine l_nil ?_
  refine then_norm ?_
  refine hK11 _ _ ?_
  clear hK11
  refine c_seq ?_
  intro K12 hK12
  rcases (Decidable.em ((v3 : Int) < ((a_s1l : Nat) : Int))) with hb13 | hb13
  · replace H := H.1 hb13
    have hq14 : Value.bool (decide ((v3 : Int) < ((a_s1l : Nat) : Int))) = Value.bool true := congrArg Value.bool (decide_eq_true hb13)
    refine cond_t (ev_tv rfl hq14) ?_
    refine c_skip ?_
    refine then_norm ?_
    refine hK12 _ _ ?_
    clear hK12
    refine c_seq ?_
    intro K15 hK15
    refine c_block ?_
    refine c_seq ?_
    intro K16 hK16
    refine c_region ?_
    refine L_val (v := .int .i64 v3) (y_move (ev_tv rfl hs10)) ?_
    refine L_val (v := .int .i64 v3) (y_assign (ev_tv rfl rfl)) ?_
    refine l_nil ?_
    refine then_norm ?_
    refine hK16 _ _ ?_
    clear hK16
    refine c_seq ?_
    intro K17 hK17
    refine c_region ?_
    refine L_val (v := a_f2) (y_move (ev_tv rfl ((hag6 1 rfl).trans rfl))) ?_
    refine L_val (v := .slice a_s1 a_s1l a_s1c) (y_move (ev_tv rfl ((hag6 0 rfl).trans rfl))) ?_
    refine L_val (v := .int .i64 v3) (y_move (ev_tv rfl rfl)) ?_
    obtain ⟨b6, o7, rfl, H⟩ := H
    obtain ⟨hi18, hi19, H⟩ := H
    refine L_val (v := .pointer (some ⟨b6, o7 + (v3 : Int).toNat * 2, none⟩)) (y_ix Try.underlying40 Try.type31 rfl (ev_tv rfl rfl) (ev_tv rfl rfl) hi18 hi19) ?_
    obtain ⟨x8, x9, hc20, H⟩ := H
    refine L_val (v := .agg #[.int .i64 x8, .int .i64 x9]) (y_loadAgg Try.underlying31 rfl Try.type31 rfl (ev_tv rfl rfl) hc20) ?_
    obtain ⟨khk26, firsthk26, caphk26, hi27, hk26, H⟩ := H
    refine L_call (y_callv hk26 (map_ev1 (ev_tv rfl rfl)) ((ev_tv rfl rfl).trans hi27)) (Calls.mono H ?_)
    clear H
    rintro _ w11 ⟨x10, rfl, H⟩
    refine ⟨_, rfl, ?_⟩
    refine l_nil ?_
    refine then_norm ?_
    refine hK17 _ _ ?_
    clear hK17
    rcases Bool.eq_false_or_eq_true x10 with hb21 | hb21
    · replace H := H.1 hb21
      have hq22 : Value.bool (x10) = Value.bool true := congrArg Value.bool hb21
      refine cond_t (ev_tv rfl hq22) ?_
      refine c_seq ?_
      intro K23 hK23
      refine c_region ?_
      refine L_val (v := .int .i64 v3) (y_move (ev_tv rfl rfl)) ?_
      refine L_val (v := .int .i64 v3) (y_assign (ev_tv rfl rfl)) ?_
      refine l_nil ?_
      refine then_norm ?_
      refine hK23 _ _ ?_
      clear hK23
      refine c_ret ?_
      refine block_ret ?_
      refine then_ret ?_
      refine then_ret ?_
      refine block_ret ?_
      refine then_ret ?_
      exact body_1 rfl (ev_tv rfl rfl) H
    · replace H := H.2 hb21
      have hq22 : Value.bool (x10) = Value.bool false := congrArg Value.bool hb21
      refine cond_f (ev_tv rfl hq22) ?_
      refine c_skip ?_
      refine block_norm ?_
      refine then_norm ?_
      refine hK15 _ _ ?_
      clear hK15
      refine c_region ?_
      obtain ⟨r13, hr24⟩ : ∃ r13 : Int, r13 = IntKind.wrap .i64 (v3 + 1) := ⟨_, rfl⟩
      replace H := H r13 hr24
      refine L_val (v := .int .i64 r13) (y_add (ev_tv rfl hs10) ev_c hr24) ?_
      refine L_val (v := .int .i64 r13) (y_move (ev_tv rfl rfl)) ?_
      refine l_nil ?_
      refine then_norm ?_
      obtain ⟨m14, hm25, H⟩ := H
      exact ⟨_, rfl, (by repeat (first | exact agree_refl | exact hag6 | refine agree_upd rfl ?_ | refine agree_via hag6 rfl ?_)), m14, hm25, _, rfl, H⟩
  · replace H := H.2 hb13
    have hq14 : Value.bool (decide ((v3 : Int) < ((a_s1l : Nat) : Int))) = Value.bool false := congrArg Value.bool (decide_eq_false hb13)
    refine cond_f (ev_tv rfl hq14) ?_
    refine c_exit ?_
    refine then_exit ?_
    refine then_exit ?_
    refine block_hit ?_
    refine then_norm ?_
    refine hK2 _ _ ?_
    clear hK2
    refine c_seq ?_
    intro K28 hK28
    refine c_region ?_
    refine L_val (v := .int .i64 (-1)) (y_assign ev_c) ?_
    refine l_nil ?_
    refine then_norm ?_
    refine hK28 _ _ ?_
    clear hK28
    refine c_ret ?_
    exact body_1 rfl (ev_tv rfl rfl) H

end Go.Proofs.Ytdhdbdpemejpjaa
