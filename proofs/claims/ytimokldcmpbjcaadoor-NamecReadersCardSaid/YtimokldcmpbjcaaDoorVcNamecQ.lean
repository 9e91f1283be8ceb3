/- A part of the proof: lemmas. -/
import Derived.Test.YtimokldcmpbjcaaDoorVcNamecN
import Derived.Test.YtimokldcmpbjcaaDoorVcNamecO
namespace Go.Proofs.YtimokldcmpbjcaaDoor
open Go Go.Vc
set_option maxRecDepth 100000
set_option linter.unusedVariables false

def CacheG.at (c : CacheG) (d : DomG) : CacheG := { c with d := d }
theorem at_ok {c : CacheG} {d : DomG} (hc : CacheOk c) (hd : DomOk d) (hw : d.waits = c.d.waits) : CacheOk (c.at d) :=
  ⟨hd, hc.vec, hc.mnd, hc.map, hc.nd, hc.ids, by show ∀ x ∈ c.E, ∀ g ∈ d.waits.map _, _; rw [hw]; exact hc.apart, by show ∀ g ∈ d.waits.map _, _; rw [hw]; exact hc.gone, hc.idn, hc.lo, hc.rlo, hc.rhi, hc.full⟩
theorem at_H {c : CacheG} {d : DomG} (h : d.db = c.d.db) : (c.at d).H = c.H := by
  unfold CacheG.H CacheG.cells CacheG.at
  simp only [h]

section
variable {w0 w : World} {Im : Mem} {Fr L : List (Nat × Obj)} {R : Ending → World → Prop}

theorem ready_none {ws : List (Int × Int)} {e : Int} (h : ∀ p ∈ ws, 0 ≤ p.2) (he : e ≤ 1) : (ws.filter fun p => decide (p.2 + 2 ≤ e)) = [] ∧ (ws.filter fun p => !decide (p.2 + 2 ≤ e)) = ws := by
  refine ⟨List.filter_eq_nil_iff.2 fun p hp => ?_, List.filter_eq_self.2 fun p hp => ?_⟩
  · have := h p hp; simp; omega
  · have := h p hp; simp; omega
theorem filter_two {α : Type} (p : α → Bool) (l : List α) : (l.filter p).length + (l.filter fun x => !p x).length = l.length := by
  induction l with
  | nil => rfl
  | cons x t ih =>
    rw [List.filter_cons, List.filter_cons]
    cases h : p x
    · simp only [Bool.not_false, Bool.false_eq_true, if_false, if_true, List.length_cons]; omega
    · simp only [Bool.not_true, Bool.false_eq_true, if_false, if_true, List.length_cons]; omega

/-- The law NamecReaders. -/
theorem s5 (h : Own w0 Im w []) (hm : MaxLen Im) {a : Option Addr} {l k : Nat} {ops : List Op} (hops : InE Im opC 4 a l ops) (hl : l ≤ 3518437208780)
    (hR : ∀ w', Own w0 Im w' [] → R (.returned (.bool true)) w') :
    Calls Tryd.prog 5 #[.slice a l k] w R := by
  apply vc5
  unfold Vc5
  have hdone : ∀ w' L, Own w0 Im w' L → R (.returned (.bool true)) w' := fun w' L ho => hR w' (ho.sub (List.nil_sublist _))
  have hlen := hops.len
  refine s11 h (by omega) (by omega) fun w4 d h4 hd hn hp he hw => ⟨_, _, rfl, ?_⟩
  refine s12 h4 hd (fun hno => by omega) fun w8 cb mb h1 h2 h8 => ⟨_, _, rfl, fun e => absurd rfl e, fun _ => ⟨fun e => (by cases e), fun _ => ?_⟩⟩
  refine s9 h8 hm fun w11 h11 => ⟨_, rfl, fun _ => ?_, fun e => (by cases e)⟩
  have hc0 := new_ok (cb := cb) (mb := mb) hd hw h1 h2
  let c0 : CacheG := { cb := cb, d := d, room := 3, mb := mb, M := [], clk := 0, ov := none, E := [], last := 0 }
  have hnl : 0 < d.nest.length := by rw [hn]; decide
  have hn0 : d.nest[0] = 0 := by simp [hn]
  refine s23 (i := 0) (h11.perm (perm_l c0.H d.L [])) hd hnl (by omega) (by omega) fun w14 h14 => ⟨_, rfl, fun e => absurd rfl e, fun _ => ?_⟩
  let d1 : DomG := { d with nest := d.nest.set 0 (d.nest[0] + 1) }
  have hd1 : DomOk d1 := hd.nest 0 _
  have hc1 : CacheOk (c0.at d1) := at_ok hc0 hd1 rfl
  have h14' : Own w0 Im w14 ((c0.at d1).H ++ (d1.L ++ [])) := by
    rw [at_H (c := c0) (d := d1) rfl]
    exact h14.perm (perm_l c0.H d1.L []).symm
  refine ⟨fun w' => ∃ c : CacheG, Own w0 Im w' (c.H ++ (c.d.L ++ [])) ∧ CacheOk c ∧ c.d.db = d.db ∧ c.d.nest = [1, 0] ∧ 0 ≤ c.d.epoch ∧ c.d.epoch ≤ 1 ∧ (∀ p ∈ c.d.waits, 0 ≤ p.2 ∧ p.2 ≤ c.d.epoch) ∧ c.d.waits.length ≤ 4398046511104, ?_, ?_⟩
  · -- nobody is inside any more
    rintro w16 ⟨c, h16, hc, hdb, hnest, he0, he1, hwb, hwl⟩
    refine at_cb (n := c.d.db) hdb ?_
    refine s21 (h16.perm (perm_l c.H c.d.L [])) hc.dom (by omega) fun w18 x h18 hx => ⟨_, _, _, rfl, ?_⟩
    have h18' := h18.sub (List.sublist_append_right _ _)
    refine at_cb (n := c.d.db) hdb ?_
    have hl2 : c.d.nest.length = 2 := by rw [hnest]; rfl
    refine s27 (i := 0) h18' hc.dom (by omega) (by simp [hnest]) fun w21 h21 => ⟨_, rfl, fun e => absurd rfl e, fun _ => ?_⟩
    have hd2 : DomOk { c.d with nest := c.d.nest.set 0 0, passed := c.d.passed.set 0 true } := (hc.dom.nest 0 0).passed 0 true
    have hno : c.d.waits.length ≤ 4398046511104 := hwl
    refine ⟨fun v w' => v = (c.d.waits.length : Nat) ∧ ∃ d' : DomG, Own w0 Im w' (d'.L ++ (c.H ++ [])) ∧ DomOk d' ∧ d'.db = d.db ∧ d'.waits = [], ?_, ?_⟩
    · rintro v w24 ⟨rfl, d', h24, hd', hdb', hw'⟩
      refine ⟨fun _ => ?_, fun e => absurd rfl e⟩
      refine at_cb (n := d'.db) hdb' ?_
      refine s21 h24 hd' (by rw [hw']; simp) fun w26 x2 h26 hx2 => ⟨_, _, _, rfl, ?_⟩
      rw [hw']
      exact hdone _ _ h26
    · refine ⟨fun m v u w' => ∃ (j : Nat) (d' : DomG), m = 3 - j ∧ u = j ∧ j ≤ 3 ∧ Own w0 Im w' (d'.L ++ (c.H ++ [])) ∧ DomOk d' ∧ d'.db = d.db ∧ d'.nest = [0, 0] ∧ d'.epoch = c.d.epoch + j ∧ (∀ p ∈ d'.waits, 0 ≤ p.2 ∧ p.2 ≤ c.d.epoch) ∧ v + (d'.waits.length : Nat) = (c.d.waits.length : Nat) ∧ 0 ≤ v ∧ (j = 3 → d'.waits = []),
        ⟨_, 0, _, rfl, rfl, by omega, h21, hd2, hdb, by simp [hnest], by simp, hwb, by simp, by omega, fun e => by omega⟩, ?_⟩
      rintro m v u w31 ⟨j, d', rfl, rfl, hj, h31, hd', hdb', hnest', hep, hwb', hsum, hv0, hz⟩
      refine ⟨fun hlt => ?_, fun hge => ⟨?_, d', h31, hd', hdb', hz (by omega)⟩⟩
      · have hj' : j < 3 := by omega
        have hl2' : d'.nest.length = 2 := by rw [hnest']; rfl
        have hpl : d'.passed.length = 2 := by rw [hd'.len, hl2']
        refine at_cb (n := d'.db) hdb' ?_
        refine s24 (i := 0) h31 hd' (by omega) (fun e => by simp [hnest'] at e) fun w33 _ h33 => ⟨_, rfl, ?_⟩
        refine at_cb (n := d'.db) hdb' ?_
        have hi1 : 1 < d'.nest.length := by omega
        have H := fun R hno hR => s24 (R := R) (i := 1) h33 (hd'.passed 0 true) hi1 hno hR
        refine H _ (fun e => by simp [hnest'] at e) fun w36 _ h36 => ⟨_, rfl, ?_⟩
        refine at_cb (n := d'.db) hdb' ?_
        have hall : ((d'.passed.set 0 true).set 1 true) = [true, true] := by
          match hpp : d'.passed, hpl with
          | [p0, p1], _ => rfl
        have H2 := fun R hno hR => s25 (R := R) h36 ((hd'.passed 0 true).passed 1 true) (by show 0 ≤ d'.epoch; omega) (by show d'.epoch < _; omega) hno hR
        refine H2 _ (fun e => ?_) fun w39 _ h39 => ⟨_, rfl, ?_⟩
        · have e : false ∈ ((d'.passed.set 0 true).set 1 true) := e
          rw [hall] at e; simp at e
        refine at_cb (n := d'.db) hdb' ?_
        let d3 : DomG := { d' with passed := List.replicate ((d'.passed.set 0 true).set 1 true).length false, epoch := d'.epoch + 1 }
        have hd3 : DomOk d3 := ⟨hd'.vec, hd'.lo, hd'.hi, by show (List.replicate _ false).length = _; simp; exact hd'.len⟩
        have H3 := fun R hR => s26 (R := R) (d := d3) h39 hd3 (by show 0 ≤ d'.epoch + 1; omega) (by show d'.waits.length ≤ _; omega) (fun p hp => by have := hwb' p hp; show p.2 ≤ d'.epoch + 1 ∧ _; omega) (by show d'.epoch + 1 < _; omega) hR
        refine H3 _ fun w42 d4 x h42 hd4 hdb4 hnest4 hp4 hep4 hw4 => ⟨_, _, _, rfl, fun r44 e44 r45 e45 => ?_⟩
        have hft := filter_two (fun p : Int × Int => decide (p.2 + 2 ≤ d3.epoch)) d'.waits
        have hw4' : d4.waits = d'.waits.filter fun p => !decide (p.2 + 2 ≤ d3.epoch) := hw4
        have hd3w : d3.waits = d'.waits := rfl
        have hd3e : d3.epoch = d'.epoch + 1 := rfl
        rw [hd3w] at e44
        rw [wrap_id (by omega) (by omega)] at e44 e45
        refine ⟨_, by omega, j + 1, d4, rfl, by omega, by omega, h42.sub (List.sublist_append_right _ _), hd4, hdb4.trans hdb', hnest4.trans hnest', by rw [hep4, hd3e, hep]; simp; omega, fun p hp => ?_, by rw [hw4']; omega, by omega, fun e3 => ?_⟩
        · rw [hw4'] at hp
          exact hwb' p (List.mem_filter.1 hp).1
        · rw [hw4', List.filter_eq_nil_iff]
          intro p hp
          have := hwb' p hp
          simp; omega
      · have := hz (by omega)
        rw [this] at hsum
        simpa using hsum
  · -- somebody is
    refine ⟨fun m v w' => ∃ (i : Nat) (c : CacheG), m = ops.length - i ∧ v = i ∧ i ≤ ops.length ∧ Own w0 Im w' (c.H ++ (c.d.L ++ [])) ∧ CacheOk c ∧ c.cb = cb ∧ c.d.db = d.db ∧ c.d.nest = [1, 0] ∧ 0 ≤ c.d.epoch ∧ c.d.epoch ≤ 1 ∧ (c.d.epoch = 1 → c.d.passed[0]? = some false) ∧ (∀ p ∈ c.d.waits, 0 ≤ p.2 ∧ p.2 ≤ c.d.epoch) ∧ c.d.waits.length + c.E.length ≤ i ∧ c.last ≤ i,
      ⟨_, 0, c0.at d1, rfl, rfl, by omega, h14', hc1, rfl, rfl, by show d.nest.set 0 _ = _; simp [hn], by show 0 ≤ d.epoch; omega, by show d.epoch ≤ 1; omega, fun e => (by have e : d.epoch = 1 := e; omega), fun p hp => (by have hp : p ∈ d.waits := hp; rw [hw] at hp; cases hp), by show d.waits.length + 0 ≤ 0; rw [hw]; simp, Int.le_refl _⟩, ?_⟩
    rintro m v w49 ⟨i, c, rfl, rfl, hi, h49, hc, hcb, hdb, hnest, he0, he1, hep, hwb, hcnt, hlast⟩
    refine ⟨fun hlt => ?_, fun hge => ⟨c, h49, hc, hdb, hnest, he0, he1, hwb, by omega⟩⟩
    have hi' : i < ops.length := by omega
    have et : ((i : Nat) : Int).toNat = i := by omega
    refine ⟨fun w' => ∃ c : CacheG, Own w0 Im w' (c.H ++ (c.d.L ++ [])) ∧ CacheOk c ∧ c.cb = cb ∧ c.d.db = d.db ∧ c.d.nest = [1, 0] ∧ 0 ≤ c.d.epoch ∧ c.d.epoch ≤ 1 ∧ (c.d.epoch = 1 → c.d.passed[0]? = some false) ∧ (∀ p ∈ c.d.waits, 0 ≤ p.2 ∧ p.2 ≤ c.d.epoch) ∧ c.d.waits.length + c.E.length ≤ i + 1 ∧ c.last ≤ i + 1, ?_, ?_⟩
    · rintro w50 ⟨c, h50, hc, hcb, hdb, hnest, he0, he1, hep, hwb, hcnt, hlast⟩
      have hl2 : c.d.nest.length = 2 := by rw [hnest]; rfl
      have hpl : c.d.passed.length = 2 := by rw [hc.dom.len, hl2]
      have hfin : ∀ (w' : World) (d' : DomG), Own w0 Im w' (d'.L ++ (c.H ++ [])) → DomOk d' → d'.db = c.d.db → d'.nest = [1, 0] → d'.waits = c.d.waits → c.d.epoch ≤ d'.epoch → d'.epoch ≤ 1 → (d'.epoch = 1 → d'.passed[0]? = some false) →
          Calls Tryd.prog 26 #[.pointer (some ⟨d.db, 0, none⟩)] w' fun e w58 => ∃ x57 : Option Addr, ∃ x57l : Nat, ∃ x57c : Nat, e = .returned (.slice x57 x57l x57c) ∧ (((¬ ((((x57l : Nat) : Int) : Int) = 0)) → R (.returned (.bool false)) w58) ∧ (((((x57l : Nat) : Int) : Int) = 0) → (∀ r60 : Int, r60 = IntKind.wrap .i64 (((i : Nat) : Int) + 1) → (∃ m61, m61 < ops.length - i ∧ ∃ (i : Nat) (c : CacheG), m61 = ops.length - i ∧ r60 = i ∧ i ≤ ops.length ∧ Own w0 Im w58 (c.H ++ (c.d.L ++ [])) ∧ CacheOk c ∧ c.cb = cb ∧ c.d.db = d.db ∧ c.d.nest = [1, 0] ∧ 0 ≤ c.d.epoch ∧ c.d.epoch ≤ 1 ∧ (c.d.epoch = 1 → c.d.passed[0]? = some false) ∧ (∀ p ∈ c.d.waits, 0 ≤ p.2 ∧ p.2 ≤ c.d.epoch) ∧ c.d.waits.length + c.E.length ≤ i ∧ c.last ≤ i)))) := by
        intro w' d' h' hd' hdb' hnest' hw' hee he1' hep'
        refine at_cb (n := d'.db) (hdb'.trans hdb) ?_
        refine s26 h' hd' (by omega) (by rw [hw']; omega) (fun p hp => by rw [hw'] at hp; have := hwb p hp; omega) (by omega) fun w58 d2 x h58 hd2 hdb2 hnest2 hp2 hep2 hw2 => ⟨_, _, _, rfl, ?_⟩
        obtain ⟨f1, f2⟩ := ready_none (ws := d'.waits) (e := d'.epoch) (fun p hp => by rw [hw'] at hp; exact (hwb p hp).1) he1'
        rw [f1]
        rw [f2] at hw2
        refine ⟨fun e => absurd rfl e, fun _ r60 e60 => ?_⟩
        rw [wrap_id (by omega) (by omega)] at e60
        have hdb3 : d2.db = c.d.db := hdb2.trans hdb'
        refine ⟨_, by omega, i + 1, c.at d2, rfl, by omega, by omega, ?_, at_ok hc hd2 (hw2.trans hw'), hcb, hdb3.trans hdb, hnest2.trans hnest', by show 0 ≤ d2.epoch; omega, by show d2.epoch ≤ 1; omega, fun e => ?_, fun p hp => ?_, by show d2.waits.length + _ ≤ _; rw [hw2, hw']; exact hcnt, by show c.last ≤ _; omega⟩
        · rw [at_H hdb3]
          exact ((h58.sub (List.sublist_append_right _ _)).perm (perm_l c.H d2.L []).symm)
        · have e : d2.epoch = 1 := e
          show d2.passed[0]? = _
          rw [hp2]; exact hep' (by omega)
        · have hp : p ∈ d2.waits := hp
          show 0 ≤ p.2 ∧ p.2 ≤ d2.epoch
          rw [hw2, hw'] at hp
          have := hwb p hp
          omega
      refine at_cb (n := c.d.db) hdb ?_
      refine s24 (i := 1) (h50.perm (perm_l c.H c.d.L [])) hc.dom (by omega) (fun e => by simp [hnest] at e) fun w52 _ h52 => ⟨_, rfl, ?_⟩
      refine at_cb (n := c.d.db) hdb ?_
      have hd2 := hc.dom.passed 1 true
      have hp0 : (c.d.passed.set 1 true)[0]? = c.d.passed[0]? := by rw [List.getElem?_set_ne (by omega)]
      have H := fun R hno hR => s25 (R := R) h52 hd2 (by show 0 ≤ c.d.epoch; omega) (by show c.d.epoch < _; omega) hno hR
      refine H _ (fun _ => ⟨_, rfl, ?_⟩) fun w55 hnf h55 => ⟨_, rfl, ?_⟩
      · exact hfin w52 _ h52 hd2 rfl hnest rfl (Int.le_refl _) he1 (fun e => by show (c.d.passed.set 1 true)[0]? = _; rw [hp0]; exact hep e)
      · have hz : c.d.epoch = 0 := by
          rcases (show c.d.epoch = 0 ∨ c.d.epoch = 1 by omega) with e | e
          · exact e
          · exfalso
            have := hep e
            rw [← hp0] at this
            exact hnf (List.mem_of_getElem? this)
        have hd3 : DomOk { c.d with passed := List.replicate (c.d.passed.set 1 true).length false, epoch := c.d.epoch + 1 } := ⟨hc.dom.vec, hc.dom.lo, hc.dom.hi, by show (List.replicate _ false).length = _; simp; exact hc.dom.len⟩
        refine hfin w55 _ h55 hd3 rfl hnest rfl (by show c.d.epoch ≤ c.d.epoch + 1; omega) (by show c.d.epoch + 1 ≤ 1; omega) (fun _ => ?_)
        show (List.replicate (c.d.passed.set 1 true).length false)[0]? = some false
        rw [List.length_set, hpl]; rfl
    · obtain ⟨b62, o63, ea, hcells, hcell⟩ := hops.get h49 hi'
      have hopk : ∀ {w'}, Own w0 Im w' (c.H ++ (c.d.L ++ [])) → ∀ k, k < 4 → w'.cell? ⟨b62, o63 + i * 4 + k, none⟩ = (opC ops[i])[k]? := fun {w'} h k hk => by
        obtain ⟨b, o, ea', _, hc'⟩ := hops.get h hi'
        rw [ea] at ea'
        simp only [Option.some.injEq, Addr.mk.injEq] at ea'
        obtain ⟨rfl, rfl, _⟩ := ea'
        exact hc' k hk
      have hkey : ∀ {w'}, Own w0 Im w' (c.H ++ (c.d.L ++ [])) → CellsAt w' ⟨b62, o63 + i * 4 + 1, none⟩ [.int .i64 ops[i].key.1, .string ops[i].key.2] := fun {w'} h j v hj => by
        rw [add_none]
        match j with
        | 0 => have := hopk h 1 (by omega); rw [show o63 + i * 4 + 1 + 0 = o63 + i * 4 + 1 from rfl, this]; simpa [opC] using hj
        | 1 => have := hopk h 2 (by omega); rw [show o63 + i * 4 + 1 + 1 = o63 + i * 4 + 2 from rfl, this]; simpa [opC] using hj
        | j + 2 => simp at hj
      have hkeep : ∀ (w' : World) (c2 : CacheG) (E : List Kp) (last : Int) (g : List Int), Own w0 Im w' (c2.H ++ (c2.d.L ++ [])) → CacheOk c2 → Turned c c2 E last g → g.length + E.length ≤ c.E.length + 1 → last ≤ i + 1 →
          ∃ c : CacheG, Own w0 Im w' (c.H ++ (c.d.L ++ [])) ∧ CacheOk c ∧ c.cb = cb ∧ c.d.db = d.db ∧ c.d.nest = [1, 0] ∧ 0 ≤ c.d.epoch ∧ c.d.epoch ≤ 1 ∧ (c.d.epoch = 1 → c.d.passed[0]? = some false) ∧ (∀ p ∈ c.d.waits, 0 ≤ p.2 ∧ p.2 ≤ c.d.epoch) ∧ c.d.waits.length + c.E.length ≤ i + 1 ∧ c.last ≤ i + 1 := by
        intro w' c2 E last g h' hc2 ht hgl hll
        refine ⟨c2, h', hc2, ht.cb.trans hcb, ht.db.trans hdb, ht.nest.trans hnest, by rw [ht.epoch]; exact he0, by rw [ht.epoch]; exact he1, by rw [ht.epoch, ht.passed]; exact hep, fun p hp => ?_, ?_, by rw [ht.last]; exact hll⟩
        · rw [ht.waits] at hp
          rw [ht.epoch]
          rcases List.mem_append.1 hp with hp | hp
          · exact hwb p hp
          · obtain ⟨q, _, rfl⟩ := List.mem_map.1 hp
            exact ⟨he0, Int.le_refl _⟩
        · rw [ht.waits, ht.E, List.length_append, List.length_map]; omega
      have hsame : ∀ w', Own w0 Im w' (c.H ++ (c.d.L ++ [])) → ∃ c : CacheG, Own w0 Im w' (c.H ++ (c.d.L ++ [])) ∧ CacheOk c ∧ c.cb = cb ∧ c.d.db = d.db ∧ c.d.nest = [1, 0] ∧ 0 ≤ c.d.epoch ∧ c.d.epoch ≤ 1 ∧ (c.d.epoch = 1 → c.d.passed[0]? = some false) ∧ (∀ p ∈ c.d.waits, 0 ≤ p.2 ∧ p.2 ≤ c.d.epoch) ∧ c.d.waits.length + c.E.length ≤ i + 1 ∧ c.last ≤ i + 1 :=
        fun w' h' => ⟨c, h', hc, hcb, hdb, hnest, he0, he1, hep, hwb, by omega, by omega⟩
      refine ⟨_, _, ea, by omega, hlt, _, by rw [et]; exact hopk h49 0 (by omega), fun _ => ⟨by omega, hlt, by omega, hlt, ?_⟩, fun _ => ⟨fun _ => ⟨by omega, hlt, ?_⟩, fun _ => hsame _ h49⟩⟩
      · have h49d := h49.drew
        refine ⟨_, _, by rw [et]; exact hkey h49d, _, by rw [et]; exact hopk h49d 3 (by omega), ?_⟩
        refine at_cb hcb ?_
        refine s15 h49d hc (by omega) (by omega) ops[i].key ops[i].ino (fun _ w69 h69 => ⟨_, rfl, hsame _ h69⟩) fun w69 c2 _ h69 hc2 ht => ⟨_, rfl, ?_⟩
        have hpl := putE_len c.E c.room ops[i].key hc.nd
        exact hkeep _ _ _ _ _ h69 hc2 ht (by simp; omega) (by omega)
      · refine ⟨_, _, by rw [et]; exact hkey h49, ?_⟩
        refine at_cb hcb ?_
        refine s17 h49 hc (by omega) ops[i].key (fun _ w73 h73 => ⟨_, rfl, hsame _ h73⟩) fun w73 c2 x hx h73 hc2 ht => ⟨_, rfl, ?_⟩
        have hll := lessK_len1 hc.nd hx
        exact hkeep _ _ _ _ _ h73 hc2 ht (by simp; omega) (by omega)
end
end Go.Proofs.YtimokldcmpbjcaaDoor
