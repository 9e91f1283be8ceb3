/- For each Go function: what must be shown of it, and that this is enough. Printed by a program over the seat's translation. -/
import Derived.Test.YtgkcckghmlccnaaVcGenB
namespace Go.Proofs.Ytgkcckghmlccnaa
open Go Go.Vc
set_option maxRecDepth 100000
set_option linter.unusedVariables false
set_option maxHeartbeats 2000000

/-- slices.DeleteFunc[[]int,int] -/
def Vc37 (a_s1 : Option Addr) (a_s1l : Nat) (a_s1c : Nat) (a_del2 : Value) (w : World) (R : Ending → World → Prop) : Prop :=
  (Calls Try.prog 34 #[.slice a_s1 a_s1l a_s1c, a_del2] w fun e w4 => ∃ x3 : Int, e = .returned (.int .i64 x3) ∧ ((((x3 : Int) = (-1)) → R (.returned (.slice a_s1 a_s1l a_s1c)) w4) ∧ ((¬ ((x3 : Int) = (-1))) → (∃ J8 : Int → World → Prop, (∀ (v6 : Int) (w7 : World), J8 v6 w7 → ((0 : Int) ≤ v6 ∧ v6 ≤ ((a_s1l : Nat) : Int) ∧ ∀ a8 : Option Addr, a8 = subA a_s1 1 a_s1c (v6 : Int).toNat → (∃ w9 : World, (Builtin.clear_ #[43] 0 #[.slice a8 (a_s1l - (v6 : Int).toNat) (a_s1c - (v6 : Int).toNat)]).run Try.prog w7 = .ok (.tuple #[]) w9 ∧ ((0 : Int) ≤ v6 ∧ v6 ≤ ((a_s1c : Nat) : Int) ∧ ∀ a10 : Option Addr, a10 = a_s1 → R (.returned (.slice a10 ((v6 : Int).toNat) a_s1c)) w9)))) ∧ (∀ r11 : Int, r11 = IntKind.wrap .i64 (x3 + 1) → (∃ I26 : Nat → Int → Int → World → Prop, (∃ m, I26 m x3 r11 w4) ∧ ∀ (m14 : Nat) (v12 : Int) (v13 : Int) (w15 : World), I26 m14 v12 v13 w15 → ((((v13 : Int) < ((a_s1l : Nat) : Int)) → (∃ (b16 o17 : Nat), a_s1 = some ⟨b16, o17, none⟩ ∧ ((0 : Int) ≤ v13 ∧ v13 < ((a_s1l : Nat) : Int) ∧ (∃ x18 : Int, World.cell? w15 ⟨b16, o17 + (v13 : Int).toNat, none⟩ = some (.int .i64 x18) ∧ (Invoke Try.prog a_del2 #[.int .i64 x18] w15 fun e w20 => ∃ x19 : Bool, e = .returned (.bool x19) ∧ (((x19 = true) → (∀ r22 : Int, r22 = IntKind.wrap .i64 (v13 + 1) → (∃ m23, m23 < m14 ∧ I26 m23 v12 r22 w20))) ∧ ((x19 = false) → ((0 : Int) ≤ v12 ∧ v12 < ((a_s1l : Nat) : Int) ∧ ((World.cell? w20 ⟨b16, o17 + (v12 : Int).toNat, none⟩).isSome = true ∧ World.frozen? w20 ⟨b16, o17 + (v12 : Int).toNat, none⟩ = false ∧ ∀ w24 : World, w24 = World.setCell w20 ⟨b16, o17 + (v12 : Int).toNat, none⟩ (.int .i64 x18) → (∀ r25 : Int, r25 = IntKind.wrap .i64 (v12 + 1) → (∀ r26 : Int, r26 = IntKind.wrap .i64 (v13 + 1) → (∃ m27, m27 < m14 ∧ I26 m27 r25 r26 w24)))))))))))) ∧ ((¬ ((v13 : Int) < ((a_s1l : Nat) : Int))) → J8 v12 w15))))))))

theorem vc37 {a_s1 : Option Addr} {a_s1l : Nat} {a_s1c : Nat} {a_del2 : Value} {w : World} {R : Ending → World → Prop} (H : Vc37 a_s1 a_s1l a_s1c a_del2 w R) : Calls Try.prog 37 #[.slice a_s1 a_s1l a_s1c, a_del2] w R := by
  unfold Vc37 at H
  refine calls_start [.slice a_s1 a_s1l a_s1c, a_del2] Try.func37 rfl Try.ntmps37 rfl ?_
  refine c_seq ?_
  intro K1 hK1
  refine c_region ?_
  refine L_val (v := .slice none 0 0) (y_assign ev_c) ?_
  refine l_nil ?_
  refine then_norm ?_
  refine hK1 _ _ ?_
  clear hK1
  refine c_seq ?_
  intro K2 hK2
  refine c_region ?_
  refine L_val (v := .slice a_s1 a_s1l a_s1c) (y_move (ev_tv rfl rfl)) ?_
  refine L_val (v := a_del2) (y_move (ev_tv rfl rfl)) ?_
  refine L_call (y_call Try.call34 (map_ev2 (ev_tv rfl rfl) (ev_tv rfl rfl)) ev_f) (Calls.mono H ?_)
  clear H
  rintro _ w4 ⟨x3, rfl, H⟩
  refine ⟨_, rfl, ?_⟩
  refine L_val (v := .int .i64 x3) (y_assign (ev_tv rfl rfl)) ?_
  refine l_nil ?_
  refine then_norm ?_
  refine hK2 _ _ ?_
  clear hK2
  refine c_seq ?_
  intro K3 hK3
  refine c_seq ?_
  intro K4 hK4
  refine c_region ?_
  refine L_val (v := .int .i64 x3) (y_move (ev_tv rfl rfl)) ?_
  refine L_val (v := .bool (decide ((x3 : Int) = (-1)))) (y_ieq (ev_tv rfl rfl) ev_c) ?_
  refine l_nil ?_
  refine then_norm ?_
  refine hK4 _ _ ?_
  clear hK4
  rcases (Decidable.em ((x3 : Int) = (-1))) with hb5 | hb5
  · replace H := H.1 hb5
    have hq6 : Value.bool (decide ((x3 : Int) = (-1))) = Value.bool true := congrArg Value.bool (decide_eq_true hb5)
    refine cond_t (ev_tv rfl hq6) ?_
    refine c_seq ?_
    intro K7 hK7
    refine c_region ?_
    refine L_val (v := .slice a_s1 a_s1l a_s1c) (y_move (ev_tv rfl rfl)) ?_
    refine L_val (v := .slice a_s1 a_s1l a_s1c) (y_assign (ev_tv rfl rfl)) ?_
    refine l_nil ?_
    refine then_norm ?_
    refine hK7 _ _ ?_
    clear hK7
    refine c_ret ?_
    refine then_ret ?_
    exact body_1 rfl (ev_tv rfl rfl) H
  · replace H := H.2 hb5
    have hq6 : Value.bool (decide ((x3 : Int) = (-1))) = Value.bool false := congrArg Value.bool (decide_eq_false hb5)
    refine cond_f (ev_tv rfl hq6) ?_
    refine c_skip ?_
    refine then_norm ?_
    refine hK3 _ _ ?_
    clear hK3
    obtain ⟨J8, hJ9, H⟩ := H
    refine c_seqJ [(5, 7), (14, 35)] (fun ff ww => ∃ (v6 : Int), ff 5 = (.int .i64 v6 : Value) ∧ J8 v6 ww) ?_ ?_
    · clear hJ9
      intro K13 hK13
      refine c_seq ?_
      intro K24 hK24
      refine c_region ?_
      refine L_val (v := .int .i64 x3) (y_move (ev_tv rfl rfl)) ?_
      obtain ⟨r11, hr25⟩ : ∃ r11 : Int, r11 = IntKind.wrap .i64 (x3 + 1) := ⟨_, rfl⟩
      replace H := H r11 hr25
      refine L_val (v := .int .i64 r11) (y_add (ev_tv rfl rfl) ev_c hr25) ?_
      refine L_val (v := .int .i64 r11) (y_assign (ev_tv rfl rfl)) ?_
      refine l_nil ?_
      refine then_norm ?_
      refine hK24 _ _ ?_
      clear hK24
      refine c_block ?_
      obtain ⟨I26, ⟨m30, HI31⟩, H⟩ := H
      refine loop_fr ([(5, 7), (16, 35)]) (fun m ff ww => ∃ (v12 : Int) (v13 : Int), ff 5 = (.int .i64 v12 : Value) ∧ ff 6 = (.int .i64 v13 : Value) ∧ I26 m v12 v13 ww) m30 ⟨x3, r11, rfl, rfl, HI31⟩ ?_
      rintro m14 f27 w15 hag28 ⟨v12, v13, hs32, hs33, HI29⟩
      replace H := H m14 v12 v13 w15 HI29
      refine c_seq ?_
      intro K34 hK34
      refine c_seq ?_
      intro K35 hK35
      refine c_region ?_
      refine L_val (v := .int .i64 v13) (y_move (ev_tv rfl hs33)) ?_
      refine L_val (v := .slice a_s1 a_s1l a_s1c) (y_move (ev_tv rfl ((hag28 0 rfl).trans rfl))) ?_
      refine L_val (v := .int .i64 ((a_s1l : Nat) : Int)) (y_len Try.underlying43 rfl (map_ev1 (ev_tv rfl rfl))) ?_
      refine L_val (v := .bool (decide ((v13 : Int) < ((a_s1l : Nat) : Int)))) (y_lss (ev_tv rfl rfl) (ev_tv rfl rfl)) ?_
      refine l_nil ?_
      refine then_norm ?_
      refine hK35 _ _ ?_
      clear hK35
      rcases (Decidable.em ((v13 : Int) < ((a_s1l : Nat) : Int))) with hb36 | hb36
      · replace H := H.1 hb36
        have hq37 : Value.bool (decide ((v13 : Int) < ((a_s1l : Nat) : Int))) = Value.bool true := congrArg Value.bool (decide_eq_true hb36)
        refine cond_t (ev_tv rfl hq37) ?_
        refine c_skip ?_
        refine then_norm ?_
        refine hK34 _ _ ?_
        clear hK34
        refine c_seq ?_
        intro K38 hK38
        refine c_block ?_
        refine c_seq ?_
        intro K39 hK39
        refine c_region ?_
        refine L_val (v := .slice a_s1 a_s1l a_s1c) (y_move (ev_tv rfl ((hag28 0 rfl).trans rfl))) ?_
        refine L_val (v := .int .i64 v13) (y_move (ev_tv rfl hs33)) ?_
        obtain ⟨b16, o17, rfl, H⟩ := H
        obtain ⟨hi40, hi41, H⟩ := H
        refine L_val (v := .pointer (some ⟨b16, o17 + (v13 : Int).toNat, none⟩)) (y_ix1 Try.underlying43 Try.type3 rfl (ev_tv rfl rfl) (ev_tv rfl rfl) hi40 hi41) ?_
        obtain ⟨x18, hc42, H⟩ := H
        refine L_val (v := .int .i64 x18) (y_load Try.underlying3 rfl (ev_tv rfl rfl) hc42) ?_
        refine L_val (v := .int .i64 x18) (y_assign (ev_tv rfl rfl)) ?_
        refine l_nil ?_
        refine then_norm ?_
        refine hK39 _ _ ?_
        clear hK39
        refine c_seq ?_
        intro K43 hK43
        refine c_region ?_
        refine L_val (v := a_del2) (y_move (ev_tv rfl ((hag28 1 rfl).trans rfl))) ?_
        refine L_val (v := .int .i64 x18) (y_move (ev_tv rfl rfl)) ?_
        obtain ⟨khk57, firsthk57, caphk57, hi58, hk57, H⟩ := H
        refine L_call (y_callv hk57 (map_ev1 (ev_tv rfl rfl)) ((ev_tv rfl rfl).trans hi58)) (Calls.mono H ?_)
        clear H
        rintro _ w20 ⟨x19, rfl, H⟩
        refine ⟨_, rfl, ?_⟩
        rcases Bool.eq_false_or_eq_true x19 with hb44 | hb44
        · replace H := H.1 hb44
          have hq45 : Value.bool (x19) = Value.bool true := congrArg Value.bool hb44
          refine L_val (v := .bool false) (y_not_t (ev_tv rfl hq45)) ?_
          refine l_nil ?_
          refine then_norm ?_
          refine hK43 _ _ ?_
          clear hK43
          refine cond_f (ev_tv rfl rfl) ?_
          refine c_skip ?_
          refine block_norm ?_
          refine then_norm ?_
          refine hK38 _ _ ?_
          clear hK38
          refine c_region ?_
          refine L_val (v := .int .i64 v13) (y_move (ev_tv rfl hs33)) ?_
          obtain ⟨r22, hr46⟩ : ∃ r22 : Int, r22 = IntKind.wrap .i64 (v13 + 1) := ⟨_, rfl⟩
          replace H := H r22 hr46
          refine L_val (v := .int .i64 r22) (y_add (ev_tv rfl rfl) ev_c hr46) ?_
          refine L_val (v := .int .i64 r22) (y_assign (ev_tv rfl rfl)) ?_
          refine l_nil ?_
          refine then_norm ?_
          obtain ⟨m23, hm47, H⟩ := H
          exact ⟨_, rfl, (by repeat (first | exact agree_refl | exact hag28 | refine agree_upd rfl ?_ | refine agree_via hag28 rfl ?_)), m23, hm47, _, _, hs32, rfl, H⟩
        · replace H := H.2 hb44
          have hq45 : Value.bool (x19) = Value.bool false := congrArg Value.bool hb44
          refine L_val (v := .bool true) (y_not_f (ev_tv rfl hq45)) ?_
          refine l_nil ?_
          refine then_norm ?_
          refine hK43 _ _ ?_
          clear hK43
          refine cond_t (ev_tv rfl rfl) ?_
          refine c_seq ?_
          intro K48 hK48
          refine c_region ?_
          refine L_val (v := .slice (some ⟨b16, o17, none⟩) a_s1l a_s1c) (y_move (ev_tv rfl ((hag28 0 rfl).trans rfl))) ?_
          refine L_val (v := .int .i64 v12) (y_move (ev_tv rfl hs32)) ?_
          refine L_val (v := .int .i64 x18) (y_move (ev_tv rfl rfl)) ?_
          obtain ⟨hi49, hi50, H⟩ := H
          refine L_val (v := .pointer (some ⟨b16, o17 + (v12 : Int).toNat, none⟩)) (y_ix1 Try.underlying43 Try.type3 rfl (ev_tv rfl rfl) (ev_tv rfl rfl) hi49 hi50) ?_
          obtain ⟨hc51, hf52, H⟩ := H
          obtain ⟨w24, hw53⟩ : ∃ w24 : World, w24 = World.setCell w20 ⟨b16, o17 + (v12 : Int).toNat, none⟩ (.int .i64 x18) := ⟨_, rfl⟩
          replace H := H w24 hw53
          refine L_skip (y_store Try.type3 rfl rfl (ev_tv rfl rfl) (ev_tv rfl rfl) hc51 hf52 hw53) ?_
          refine l_nil ?_
          refine then_norm ?_
          refine hK48 _ _ ?_
          clear hK48
          refine c_region ?_
          refine L_val (v := .int .i64 v12) (y_move (ev_tv rfl hs32)) ?_
          obtain ⟨r25, hr54⟩ : ∃ r25 : Int, r25 = IntKind.wrap .i64 (v12 + 1) := ⟨_, rfl⟩
          replace H := H r25 hr54
          refine L_val (v := .int .i64 r25) (y_add (ev_tv rfl rfl) ev_c hr54) ?_
          refine L_val (v := .int .i64 r25) (y_assign (ev_tv rfl rfl)) ?_
          refine l_nil ?_
          refine block_norm ?_
          refine then_norm ?_
          refine hK38 _ _ ?_
          clear hK38
          refine c_region ?_
          refine L_val (v := .int .i64 v13) (y_move (ev_tv rfl hs33)) ?_
          obtain ⟨r26, hr55⟩ : ∃ r26 : Int, r26 = IntKind.wrap .i64 (v13 + 1) := ⟨_, rfl⟩
          replace H := H r26 hr55
          refine L_val (v := .int .i64 r26) (y_add (ev_tv rfl rfl) ev_c hr55) ?_
          refine L_val (v := .int .i64 r26) (y_assign (ev_tv rfl rfl)) ?_
          refine l_nil ?_
          refine then_norm ?_
          obtain ⟨m27, hm56, H⟩ := H
          exact ⟨_, rfl, (by repeat (first | exact agree_refl | exact hag28 | refine agree_upd rfl ?_ | refine agree_via hag28 rfl ?_)), m27, hm56, _, _, rfl, rfl, H⟩
      · replace H := H.2 hb36
        have hq37 : Value.bool (decide ((v13 : Int) < ((a_s1l : Nat) : Int))) = Value.bool false := congrArg Value.bool (decide_eq_false hb36)
        refine cond_f (ev_tv rfl hq37) ?_
        refine c_exit ?_
        refine then_exit ?_
        refine then_exit ?_
        refine block_hit ?_
        refine then_norm ?_
        exact hK13 _ _ (by repeat (first | exact agree_refl | exact hag28 | refine agree_upd rfl ?_ | refine agree_via hag28 rfl ?_)) ⟨_, hs32, H⟩
    · clear H
      rintro f10 w7 hag11 ⟨v6, hs14, HJ12⟩
      have H := hJ9 v6 w7 HJ12
      clear hJ9
      refine c_seq ?_
      intro K15 hK15
      refine c_region ?_
      refine L_val (v := .slice a_s1 a_s1l a_s1c) (y_move (ev_tv rfl ((hag11 0 rfl).trans rfl))) ?_
      refine L_val (v := .int .i64 v6) (y_move (ev_tv rfl hs14)) ?_
      obtain ⟨hi17, hi18, H⟩ := H
      obtain ⟨a8, ha16⟩ : ∃ a8 : Option Addr, a8 = subA a_s1 1 a_s1c (v6 : Int).toNat := ⟨_, rfl⟩
      replace H := H a8 ha16
      refine L_val (v := .slice a8 (a_s1l - (v6 : Int).toNat) (a_s1c - (v6 : Int).toNat)) (y_sliceL Try.underlying43 Try.type3 rfl (ev_tv rfl rfl) (ev_tv rfl rfl) hi17 hi18 ha16) ?_
      obtain ⟨w9, hc19, H⟩ := H
      refine L_valn (v := .tuple #[]) (y_bi_clear (map_ev1 (ev_tv rfl rfl)) hc19) ?_
      refine l_nil ?_
      refine then_norm ?_
      refine hK15 _ _ ?_
      clear hK15
      refine c_seq ?_
      intro K20 hK20
      refine c_region ?_
      refine L_val (v := .slice a_s1 a_s1l a_s1c) (y_move (ev_tv rfl ((hag11 0 rfl).trans rfl))) ?_
      refine L_val (v := .int .i64 v6) (y_move (ev_tv rfl hs14)) ?_
      obtain ⟨hi22, hi23, H⟩ := H
      obtain ⟨a10, ha21⟩ : ∃ a10 : Option Addr, a10 = a_s1 := ⟨_, rfl⟩
      replace H := H a10 ha21
      refine L_val (v := .slice a10 ((v6 : Int).toNat) a_s1c) (y_sliceH Try.underlying43 Try.type3 (ev_tv rfl rfl) (ev_tv rfl rfl) hi22 hi23 ha21) ?_
      refine L_val (v := .slice a10 ((v6 : Int).toNat) a_s1c) (y_assign (ev_tv rfl rfl)) ?_
      refine l_nil ?_
      refine then_norm ?_
      refine hK20 _ _ ?_
      clear hK20
      refine c_ret ?_
      exact body_1 rfl (ev_tv rfl rfl) H

/-- (parapet/buf.Cache).drop$1 -/
def Vc38 (a_k1 : Int) (fv2 : Option Addr) (w : World) (R : Ending → World → Prop) : Prop :=
  (∃ (b3 o4 : Nat), fv2 = some ⟨b3, o4, none⟩ ∧ (∃ x5 : Int, World.cell? w ⟨b3, o4, none⟩ = some (.int .i64 x5) ∧ R (.returned (.bool (decide ((a_k1 : Int) = x5)))) w))

theorem vc38 {a_k1 : Int} {fv2 : Option Addr} {w : World} {R : Ending → World → Prop} (H : Vc38 a_k1 fv2 w R) : Calls Try.prog 38 #[.int .i64 a_k1, .pointer fv2] w R := by
  unfold Vc38 at H
  refine calls_start [.int .i64 a_k1, .pointer fv2] Try.func38 rfl Try.ntmps38 rfl ?_
  refine c_seq ?_
  intro K1 hK1
  refine c_region ?_
  refine L_val (v := .bool false) (y_assign ev_c) ?_
  refine l_nil ?_
  refine then_norm ?_
  refine hK1 _ _ ?_
  clear hK1
  refine c_seq ?_
  intro K2 hK2
  refine c_region ?_
  refine L_val (v := .int .i64 a_k1) (y_move (ev_tv rfl rfl)) ?_
  obtain ⟨b3, o4, rfl, H⟩ := H
  obtain ⟨x5, hc3, H⟩ := H
  refine L_val (v := .int .i64 x5) (y_load Try.underlying3 rfl (ev_tv rfl rfl) hc3) ?_
  refine L_val (v := .bool (decide ((a_k1 : Int) = x5))) (y_ieq (ev_tv rfl rfl) (ev_tv rfl rfl)) ?_
  refine L_val (v := .bool (decide ((a_k1 : Int) = x5))) (y_assign (ev_tv rfl rfl)) ?_
  refine l_nil ?_
  refine then_norm ?_
  refine hK2 _ _ ?_
  clear hK2
  refine c_ret ?_
  exact body_1 rfl (ev_tv rfl rfl) H

/-- (parapet/disk.Disk).Off -/
def Vc41 (a_d1 : Option Addr) (w : World) (R : Ending → World → Prop) : Prop :=
  (((a_d1 ≠ none) → (∃ (b2 o3 : Nat), a_d1 = some ⟨b2, o3, none⟩ ∧ (∃ x4 : Bool, World.cell? w ⟨b2, o3 + 3, none⟩ = some (.bool x4) ∧ (((x4 = true) → (∃ x5 : Int, World.cell? w ⟨b2, o3 + 4, none⟩ = some (.int .i64 x5) ∧ R (.returned (.bool (decide ((x5 : Int) = 0)))) w)) ∧ ((x4 = false) → R (.returned (.bool false)) w))))) ∧ ((a_d1 = none) → R (.returned (.bool false)) w))

theorem vc41 {a_d1 : Option Addr} {w : World} {R : Ending → World → Prop} (H : Vc41 a_d1 w R) : Calls Try.prog 41 #[.pointer a_d1] w R := by
  unfold Vc41 at H
  refine calls_start [.pointer a_d1] Try.func41 rfl Try.ntmps41 rfl ?_
  refine c_seq ?_
  intro K1 hK1
  refine c_region ?_
  refine L_val (v := .bool false) (y_assign ev_c) ?_
  refine l_nil ?_
  refine then_norm ?_
  refine hK1 _ _ ?_
  clear hK1
  refine c_seq ?_
  intro K2 hK2
  refine c_region ?_
  refine L_val (v := .pointer a_d1) (y_move (ev_tv rfl rfl)) ?_
  refine L_val (v := .bool (!a_d1.isNone)) (y_pne Try.underlying23 (ev_tv rfl rfl) ev_c) ?_
  refine L_val (v := .bool (!a_d1.isNone)) (y_move (ev_tv rfl rfl)) ?_
  rcases (Classical.em (a_d1 ≠ none)) with hb3 | hb3
  · replace H := H.1 hb3
    have hq4 : Value.bool (!a_d1.isNone) = Value.bool true := congrArg Value.bool (nisn_t hb3)
    refine G_val (dj := 5) rfl rfl hq4 (v := .pointer a_d1) (y_move (ev_tv rfl rfl)) ?_
    obtain ⟨b2, o3, rfl, H⟩ := H
    refine G_val (dj := 5) rfl rfl hq4 (v := .pointer (some ⟨b2, o3, none⟩)) (y_nilCheck (ev_tv rfl rfl)) ?_
    refine G_val (dj := 5) rfl rfl hq4 (v := .pointer (some ⟨b2, o3 + 3, none⟩)) (Try.fa51_3 (ev_tv rfl rfl)) ?_
    obtain ⟨x4, hc5, H⟩ := H
    refine G_val (dj := 5) rfl rfl hq4 (v := .bool x4) (y_load Try.underlying4 rfl (ev_tv rfl rfl) hc5) ?_
    refine L_val (v := .bool x4) (y_pick_t (ev_tv rfl hq4) (ev_tv rfl rfl)) ?_
    refine L_val (v := .bool x4) (y_move (ev_tv rfl rfl)) ?_
    rcases Bool.eq_false_or_eq_true x4 with hb6 | hb6
    · replace H := H.1 hb6
      have hq7 : Value.bool (x4) = Value.bool true := congrArg Value.bool hb6
      refine G_val (dj := 11) rfl rfl hq7 (v := .pointer (some ⟨b2, o3, none⟩)) (y_move (ev_tv rfl rfl)) ?_
      refine G_val (dj := 11) rfl rfl hq7 (v := .pointer (some ⟨b2, o3, none⟩)) (y_nilCheck (ev_tv rfl rfl)) ?_
      refine G_val (dj := 11) rfl rfl hq7 (v := .pointer (some ⟨b2, o3 + 4, none⟩)) (Try.fa51_4 (ev_tv rfl rfl)) ?_
      obtain ⟨x5, hc8, H⟩ := H
      refine G_val (dj := 11) rfl rfl hq7 (v := .int .i64 x5) (y_load Try.underlying3 rfl (ev_tv rfl rfl) hc8) ?_
      refine G_val (dj := 11) rfl rfl hq7 (v := .bool (decide ((x5 : Int) = 0))) (y_ieq (ev_tv rfl rfl) ev_c) ?_
      refine L_val (v := .bool (decide ((x5 : Int) = 0))) (y_pick_t (ev_tv rfl hq7) (ev_tv rfl rfl)) ?_
      refine L_val (v := .bool (decide ((x5 : Int) = 0))) (y_assign (ev_tv rfl rfl)) ?_
      refine l_nil ?_
      refine then_norm ?_
      refine hK2 _ _ ?_
      clear hK2
      refine c_ret ?_
      exact body_1 rfl (ev_tv rfl rfl) H
    · replace H := H.2 hb6
      have hq7 : Value.bool (x4) = Value.bool false := congrArg Value.bool hb6
      refine G_not (b' := false) (dj := 11) rfl rfl hq7 rfl ?_
      refine G_not (b' := false) (dj := 11) rfl rfl hq7 rfl ?_
      refine G_not (b' := false) (dj := 11) rfl rfl hq7 rfl ?_
      refine G_not (b' := false) (dj := 11) rfl rfl hq7 rfl ?_
      refine G_not (b' := false) (dj := 11) rfl rfl hq7 rfl ?_
      refine L_val (v := .bool false) (y_pick_f (ev_tv rfl hq7) ev_c) ?_
      refine L_val (v := .bool false) (y_assign (ev_tv rfl rfl)) ?_
      refine l_nil ?_
      refine then_norm ?_
      refine hK2 _ _ ?_
      clear hK2
      refine c_ret ?_
      exact body_1 rfl (ev_tv rfl rfl) H
  · replace hb3 : a_d1 = none := Classical.not_not.1 hb3
    replace H := H.2 hb3
    have hq4 : Value.bool (!a_d1.isNone) = Value.bool false := congrArg Value.bool (nisn_f hb3)
    refine G_not (b' := false) (dj := 5) rfl rfl hq4 rfl ?_
    refine G_not (b' := false) (dj := 5) rfl rfl hq4 rfl ?_
    refine G_not (b' := false) (dj := 5) rfl rfl hq4 rfl ?_
    refine G_not (b' := false) (dj := 5) rfl rfl hq4 rfl ?_
    refine L_val (v := .bool false) (y_pick_f (ev_tv rfl hq4) ev_c) ?_
    refine L_val (v := .bool false) (y_move (ev_tv rfl rfl)) ?_
    refine G_not (b' := false) (dj := 11) rfl rfl rfl rfl ?_
    refine G_not (b' := false) (dj := 11) rfl rfl rfl rfl ?_
    refine G_not (b' := false) (dj := 11) rfl rfl rfl rfl ?_
    refine G_not (b' := false) (dj := 11) rfl rfl rfl rfl ?_
    refine G_not (b' := false) (dj := 11) rfl rfl rfl rfl ?_
    refine L_val (v := .bool false) (y_pick_f (ev_tv rfl rfl) ev_c) ?_
    refine L_val (v := .bool false) (y_assign (ev_tv rfl rfl)) ?_
    refine l_nil ?_
    refine then_norm ?_
    refine hK2 _ _ ?_
    clear hK2
    refine c_ret ?_
    exact body_1 rfl (ev_tv rfl rfl) H

end Go.Proofs.Ytgkcckghmlccnaa
