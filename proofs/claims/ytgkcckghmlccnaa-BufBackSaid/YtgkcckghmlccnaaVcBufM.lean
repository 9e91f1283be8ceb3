/- A part of the proof: lemmas. -/
import Derived.Test.YtgkcckghmlccnaaVcBufJ
import Derived.Test.YtgkcckghmlccnaaVcBufL
namespace Go.Proofs.Ytgkcckghmlccnaa
open Go Go.Vc
set_option maxRecDepth 100000
set_option linter.unusedVariables false
section
variable {w0 w : World} {Im : Mem} {Fr L : List (Nat × Obj)} {c : CacheG} {d : DiskG} {cnt : Nat} {room : Int} {R : Ending → World → Prop}

theorem CI.dty_ns (h : CI Im c d cnt room) {m : Int} (hd : dty c m) : m ∈ c.ns := by
  obtain ⟨r, hr, e, _⟩ := hd
  exact (h.good m).2 (e ▸ List.mem_map_of_mem hr)

/-- The law BufHolds. -/
theorem s4 (h : Own w0 Im w []) {a : Option Addr} {l k : Nat} {ops : List Op} (hops : OpsIn Im a l ops) (hl : l ≤ 4398046510976) {rm : Int}
    (hR : ∀ Im' w', Im.le Im' → Own w0 Im' w' [] → R (.returned (.bool true)) w') :
    Calls Try.prog 4 #[.int .i64 rm, .slice a l k] w R := by
  apply vc4
  unfold Vc4
  refine s6 h (by omega) (by omega) fun w5 d h5 hd hS hpl => ⟨_, _, rfl, fun e => absurd rfl e, fun _ => ⟨fun e => (by cases e), fun _ => ?_⟩⟩
  refine s7 h5 fun Im8 w8 hle8 h8 => ⟨_, rfl, fun _ => ?_, fun e => (by cases e)⟩
  have hd8 := hd.mono hle8
  have hdone : ∀ Im' w' L, Im8.le Im' → Own w0 Im' w' L → R (.returned (.bool true)) w' := fun Im' w' L hle ho => hR Im' w' (Mem.le_trans hle8 hle) (ho.sub (List.nil_sublist _))
  refine s8 h8 hd8 (fun hno => ⟨_, _, rfl, fun _ => hdone _ _ _ (Mem.le_refl _) h8, fun e => (by cases e)⟩) fun hr1 hr2 w12 c hns h12 hci hval hdty => ⟨_, _, rfl, fun e => absurd rfl e, fun _ => ⟨fun e => (by cases e), fun _ => ?_⟩⟩
  have hlen := hops.1
  refine ⟨fun m v w' => ∃ Im' c' d' i, m = ops.length - i ∧ v = (i : Nat) ∧ i ≤ ops.length ∧ Im8.le Im' ∧ Own w0 Im' w' (c'.L (d'.L ++ [])) ∧ CI Im' c' d' 12 rm ∧ c'.cb = c.cb,
    ⟨_, Im8, c, d, 0, rfl, rfl, by omega, Mem.le_refl _, h12, hci, rfl⟩, ?_⟩
  rintro m v w16 ⟨Im', c', d', i, rfl, rfl, hi, hle, h16, hci', hcb⟩
  refine ⟨fun hlt => ?_, fun hge => hdone _ _ _ hle h16⟩
  have hi' : i < ops.length := by omega
  obtain ⟨b17, o18, ea, hcells⟩ := (hops.mono (Mem.le_trans hle8 hle)).cells h16 hi'
  have et : ((i : Nat) : Int).toNat = i := by omega
  refine ⟨_, _, ea, by omega, hlt, _, _, _, _, by rw [et]; exact hcells, fun b23 w24 e23 e24 => ?_⟩
  have h24 := h16.alloc' e23 e24
  refine ⟨h24.putOk 0 rfl (by simp), fun w25 e25 => ?_⟩
  have h25 : Own w0 Im' w25 ((b23, .cells #[.int .i64 ops[i].kind, .int .i64 ops[i].n, .int .u8 ops[i].fill, .int .i64 ops[i].short] 32 (0, 0)) :: c'.L (d'.L ++ [])) := by
    rw [e25]; exact h24.put [.int .i64 ops[i].kind, .int .i64 ops[i].n, .int .u8 ops[i].fill, .int .i64 ops[i].short] 0 0 rfl 0
  obtain ⟨hk25, hle25⟩ := h25.hold
  have hkeep : ∀ {Im2 w2 L2}, (Im'.add b23 (.cells #[.int .i64 ops[i].kind, .int .i64 ops[i].n, .int .u8 ops[i].fill, .int .i64 ops[i].short] 32 (0, 0))).le Im2 → Own w0 Im2 w2 L2 → ∀ j, w2.cell? ⟨b23, j, none⟩ = (#[.int .i64 ops[i].kind, .int .i64 ops[i].n, .int .u8 ops[i].fill, .int .i64 ops[i].short] : Array Value)[j]? := fun hl ho j => cell_of (ho.im _ _ (hl _ _ (by unfold Mem.add; exact if_pos rfl))) j
  generalize hIm : Im'.add b23 (.cells #[.int .i64 ops[i].kind, .int .i64 ops[i].n, .int .u8 ops[i].fill, .int .i64 ops[i].short] 32 (0, 0)) = Im25 at hk25 hle25 hkeep
  refine at_cb hcb ?_
  refine s15 hk25 (hci'.mono hle25) fun Im27 w27 a26 k26 before hle27 h27 hbef hbn hbd => ⟨_, _, _, rfl, ?_⟩
  have hci27 := hci'.mono (Mem.le_trans hle25 hle27)
  have hleA := Mem.le_trans hle (Mem.le_trans hle25 hle27)
  refine ⟨fun w29 => ∃ Im2 c2 d2, Im27.le Im2 ∧ Own w0 Im2 w29 (c2.L (d2.L ++ [])) ∧ CI Im2 c2 d2 12 rm ∧ c2.cb = c'.cb ∧ (∀ m, dty c' m → m ∈ c2.ns), ?_, ?_⟩
  · rintro w29 ⟨Im2, c2, d2, hle2, h29, hci2, hcb2, hkept⟩
    have hbl := hbef.1
    refine at_cb (hcb2.trans hcb) ?_
    refine s16 h29 hci2.ok fun Im31 w31 a30 k30 hle31 h31 hint => ⟨_, _, _, rfl, fun e => absurd e (by have := hci2.len; omega), fun _ => ?_⟩
    have hbef31 := hbef.mono (Mem.le_trans hle2 hle31)
    have hsm := hci2.ok.small
    refine ⟨fun w33 => Own w0 Im31 w33 (c2.L (d2.L ++ [])), fun w33 h33 => ?_, ?_⟩
    · -- what was dirty is kept
      have hbs : before.length ≤ 4096 := by
        have hsub : before ⊆ c2.ns := fun m hm => hkept m ((hbd m).1 hm)
        have := List.Nodup.length_le_of_subset hbn hsub
        omega
      refine ⟨fun m v w' => ∃ j, m = before.length - j ∧ v = (j : Nat) ∧ j ≤ before.length ∧ Own w0 Im31 w' (c2.L (d2.L ++ [])), ⟨_, 0, rfl, rfl, by omega, h33⟩, ?_⟩
      rintro m v w36 ⟨j, rfl, rfl, hj, h36⟩
      refine ⟨fun hjl => ?_, fun hjg r53 e53 => ?_⟩
      · have hj' : j < before.length := by omega
        refine ⟨fun m b v w' => ∃ q, m = c2.ns.length - q ∧ v = (q : Nat) ∧ q ≤ c2.ns.length ∧ Own w0 Im31 w' (c2.L (d2.L ++ [])) ∧ (b = true ↔ ∃ p, ∃ hp : p < c2.ns.length, p < q ∧ c2.ns[p] = before[j]), ⟨_, 0, rfl, rfl, by omega, h36, ⟨fun e => (by cases e), fun ⟨p, _, h, _⟩ => by omega⟩⟩, ?_⟩
        rintro m b v w40 ⟨q, rfl, rfl, hq, h40, hb⟩
        refine ⟨fun hql => ⟨fun hbt r41 e41 => ?_, fun hbf => ?_⟩, fun hqg => ⟨fun hbt r51 e51 => ?_, fun hbf => ?_⟩⟩
        · rw [wrap_id (by omega) (by omega)] at e41
          obtain ⟨p, hp, hpq, e⟩ := hb.1 hbt
          exact ⟨_, by omega, q + 1, rfl, by omega, by omega, h40.drew, ⟨fun _ => ⟨p, hp, by omega, e⟩, fun _ => rfl⟩⟩
        · have hq' : q < c2.ns.length := by omega
          obtain ⟨b43, o44, ea30, hc30⟩ := hint.cell h40.drew (k := q) (v := c2.ns[q]) (by simp [hq'])
          obtain ⟨b45, o46, ea26, hc26⟩ := hbef31.cell h40.drew (k := j) (v := before[j]) (by simp [hj'])
          have eq1 : ((q : Nat) : Int).toNat = q := by omega
          have ej1 : ((j : Nat) : Int).toNat = j := by omega
          refine ⟨_, _, ea30, by omega, hql, _, _, ea26, by omega, hjl, _, by rw [eq1]; exact hc30, _, by rw [ej1]; exact hc26, fun r49 e49 => ?_⟩
          rw [wrap_id (by omega) (by omega)] at e49
          refine ⟨_, by omega, q + 1, rfl, by omega, by omega, h40.drew, ?_⟩
          rw [decide_eq_true_eq]
          constructor
          · exact fun e => ⟨q, hq', by omega, e⟩
          · rintro ⟨p, hp, hpq, e⟩
            by_cases hpe : p = q
            · subst hpe; exact e
            · have := hb.2 ⟨p, hp, by omega, e⟩
              rw [this] at hbf; cases hbf
        · rw [wrap_id (by omega) (by omega)] at e51
          exact ⟨_, by omega, j + 1, rfl, by omega, by omega, h40⟩
        · exfalso
          have hm := hkept before[j] ((hbd _).1 (List.getElem_mem hj'))
          obtain ⟨p, hp, e⟩ := List.mem_iff_getElem.1 hm
          have := hb.2 ⟨p, hp, by omega, e⟩
          rw [this] at hbf; cases hbf
      · rw [wrap_id (by omega) (by omega)] at e53
        exact ⟨_, by omega, Im31, c2, d2, i + 1, rfl, by omega, by omega, Mem.le_trans hleA (Mem.le_trans hle2 hle31), h36, hci2.mono hle31, hcb2.trans hcb⟩
    · -- none twice
      refine ⟨fun m v w' => ∃ j, m = c2.ns.length - j ∧ v = (j : Nat) ∧ j ≤ c2.ns.length ∧ Own w0 Im31 w' (c2.L (d2.L ++ [])), ⟨_, 0, rfl, rfl, by omega, h31⟩, ?_⟩
      rintro m v w57 ⟨j, rfl, rfl, hj, h57⟩
      refine ⟨fun hjl => ?_, fun hjg => h57⟩
      have hj' : j < c2.ns.length := by omega
      refine ⟨fun m v w' => ∃ q, m = j - q ∧ v = (q : Nat) ∧ q ≤ j ∧ Own w0 Im31 w' (c2.L (d2.L ++ [])), ⟨_, 0, rfl, rfl, by omega, h57⟩, ?_⟩
      rintro m v w60 ⟨q, rfl, rfl, hq, h60⟩
      refine ⟨fun hql => ?_, fun hqg r67 e67 => ?_⟩
      · have hq' : q < c2.ns.length := by omega
        obtain ⟨b61, o62, ea30, hc30⟩ := hint.cell h60.drew (k := q) (v := c2.ns[q]) (by simp [hq'])
        obtain ⟨b61', o62', ea30', hc30'⟩ := hint.cell h60.drew (k := j) (v := c2.ns[j]) (by simp [hj'])
        have eb : some (⟨b61, o62, none⟩ : Addr) = some ⟨b61', o62', none⟩ := ea30.symm.trans ea30'
        simp only [Option.some.injEq, Addr.mk.injEq, and_true] at eb
        obtain ⟨rfl, rfl⟩ := eb
        have eq1 : ((q : Nat) : Int).toNat = q := by omega
        have ej1 : ((j : Nat) : Int).toNat = j := by omega
        refine ⟨_, _, ea30, by omega, by omega, by omega, hjl, _, by rw [eq1]; exact hc30, _, by rw [ej1]; exact hc30', fun e => ?_, fun _ r65 e65 => ?_⟩
        · have := nodup_inj hci2.ok.nn hq' hj' e
          omega
        · rw [wrap_id (by omega) (by omega)] at e65
          exact ⟨_, by omega, q + 1, rfl, by omega, by omega, h60.drew⟩
      · rw [wrap_id (by omega) (by omega)] at e67
        exact ⟨_, by omega, j + 1, rfl, by omega, by omega, h60⟩
  · -- the call
    have hk27 : ∀ {w2 L2 Im2}, Im27.le Im2 → Own w0 Im2 w2 L2 → ∀ j, w2.cell? ⟨b23, j, none⟩ = (#[.int .i64 ops[i].kind, .int .i64 ops[i].n, .int .u8 ops[i].fill, .int .i64 ops[i].short] : Array Value)[j]? := fun hl ho j => hkeep (Mem.le_trans hle27 hl) ho j
    have hsame : ∀ m, dty c' m → m ∈ c'.ns := fun m hm => hci27.dty_ns hm
    refine ⟨_, hk27 (Mem.le_refl _) h27 0, fun _ => ?_, fun _ => ⟨fun _ => ?_, fun _ => ⟨fun _ => ?_, fun _ => ?_⟩⟩⟩
    · refine ⟨_, hk27 (Mem.le_refl _) h27 1, ?_⟩
      refine at_cb hcb ?_
      refine s9 h27 hci27 (fun _ w73 h73 => ⟨_, _, _, _, rfl, ?_⟩) (fun _ _ _ _ w73 h73 => ⟨_, _, _, _, rfl, ?_⟩) fun _ _ Im73 w73 c2 d2 a2 k2 h73 hs _ _ => ⟨_, _, _, _, rfl, ?_⟩
      · exact ⟨Im27, c', d', Mem.le_refl _, h73, hci27, rfl, hsame⟩
      · exact ⟨Im27, c', d', Mem.le_refl _, h73, hci27, rfl, hsame⟩
      · exact ⟨Im73, c2, d2, hs.le, h73, hs.ci, hs.cb, fun m hm => hs.ci.dty_ns ((hs.dty m).2 hm)⟩
    · have hq := h27.drew
      refine ⟨_, hk27 (Mem.le_refl _) hq 1, _, hk27 (Mem.le_refl _) hq 2, ?_⟩
      refine s12 hq fun Im78 w78 a78 k78 hle78 h78 hb78 => ⟨_, _, _, rfl, hk27 hle78 h78 1, ?_⟩
      refine at_cb hcb ?_
      refine s11 h78 (hci27.mono hle78) hb78 (fun _ w80 h80 => ⟨_, rfl, ?_⟩) (fun _ _ _ _ w80 h80 => ⟨_, rfl, ?_⟩) fun _ _ Im80 w80 c2 hle80 h80 hci80 hcb80 hin80 _ hdty80 => ⟨_, rfl, ?_⟩
      · exact ⟨Im78, c', d', hle78, h80, hci27.mono hle78, rfl, hsame⟩
      · exact ⟨Im78, c', d', hle78, h80, hci27.mono hle78, rfl, hsame⟩
      · exact ⟨Im80, c2, d', Mem.le_trans hle78 hle80, h80, hci80, hcb80, fun m hm => hci80.dty_ns ((hdty80 m).2 (.inr hm))⟩
    · refine at_cb hcb ?_
      refine s14 h27 hci27 fun Im82 w82 c2 r hle82 h82 hci82 hev => ⟨_, rfl, ?_⟩
      exact ⟨Im82, c2, d', hle82, h82, hci82, hev.cb, fun m hm => hci82.dty_ns ((dty_evict hev m).2 hm)⟩
    · exact ⟨Im27, c', d', Mem.le_refl _, h27, hci27, rfl, hsame⟩
end
end Go.Proofs.Ytgkcckghmlccnaa
