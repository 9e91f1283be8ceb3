/- A part of the proof: lemmas. -/
import Derived.Test.YtgkcckghmlccnaaVcBufP
namespace Go.Proofs.Ytgkcckghmlccnaa
open Go Go.Vc
set_option maxRecDepth 100000
set_option linter.unusedVariables false
section
variable {w0 w : World} {Im : Mem} {Fr L : List (Nat × Obj)} {c : CacheG} {d : DiskG} {cnt : Nat} {room : Int} {R : Ending → World → Prop}

theorem val_clean (h : CI Im c d cnt room) (hc : ∀ n, ¬ dty c n) (n : Int) : val c d n = d.D n := by
  unfold val
  cases e : c.look n with
  | none => rfl
  | some r =>
    obtain ⟨h1, h2⟩ := look_mem e
    cases hd : r.dirty with
    | true => exact absurd ⟨r, h1, h2, hd⟩ (hc n)
    | false => rw [← h2]; exact h.clean r h1 hd
theorem dirty_few (h : CI Im c d 12 room) {ns : List Int} (hn : ns.Nodup) (hm : ∀ m, m ∈ ns ↔ dty c m) : ns.length ≤ 12 := by
  have hsub : ns ⊆ (List.range 12).map fun (i : Nat) => (i : Int) := fun m hmm => by
    obtain ⟨r, hr, e, _⟩ := (hm m).1 hmm
    have := h.rng r hr
    refine List.mem_map.2 ⟨m.toNat, List.mem_range.2 (by omega), by omega⟩
  have := List.Nodup.length_le_of_subset hn hsub
  simpa using this
theorem front (c : CacheG) (d : DiskG) (x : Nat × Obj) : (c.L (d.L ++ [x])).Perm (x :: c.L (d.L ++ [])) := by
  simp only [L_app, List.append_nil]
  exact List.perm_append_comm (l₂ := [x])
/-- What should be read now. -/
def Tells (now : List Int) (f : Int → List Int) : Prop := now.length = 12 ∧ ∀ (n : Nat) x, now[n]? = some x → f n = List.replicate 512 x
theorem now_cell {now : List Int} {n : Nat} {x : Int} (h : now[n]? = some x) : (u8s now).toArray[n]? = some (.int .u8 x) := by
  simp [u8s, h]

/-- The law BufBack. -/
theorem s5 (h : Own w0 Im w []) {a : Option Addr} {l k : Nat} {ops : List Op} (hops : OpsIn Im a l ops) (hl : l ≤ 4398046510976) {rm : Int}
    (hR : ∀ Im' w', Im.le Im' → Own w0 Im' w' [] → R (.returned (.bool true)) w') :
    Calls Try.prog 5 #[.int .i64 rm, .slice a l k] w R := by
  apply vc5
  unfold Vc5
  refine s6 h (by omega) (by omega) fun w5 d h5 hd hS hpl => ⟨_, _, rfl, fun e => absurd rfl e, fun _ => ⟨fun e => (by cases e), fun _ => ?_⟩⟩
  refine s7 h5 fun Im8 w8 hle8 h8 => ⟨_, rfl, fun _ => ?_, fun e => (by cases e)⟩
  have hd8 := hd.mono hle8
  have hdone : ∀ Im' w' L, Im8.le Im' → Own w0 Im' w' L → R (.returned (.bool true)) w' := fun Im' w' L hle ho => hR Im' w' (Mem.le_trans hle8 hle) (ho.sub (List.nil_sublist _))
  have hlen := hops.1
  refine s8 h8 hd8 (fun hno => ⟨_, _, rfl, ?_⟩) fun hr1 hr2 w12 c hns h12 hci hval hdty => ⟨_, _, rfl, ?_⟩
  · exact ⟨fun v w' => v = true ∧ w' = w8, fun v w' ⟨hv, hw⟩ => ⟨fun _ => ⟨fun _ => by subst hw; exact hdone _ _ _ (Mem.le_refl _) h8, fun e => absurd rfl e⟩, fun e => (by rw [hv] at e; cases e)⟩, fun _ => ⟨rfl, rfl⟩, fun e => (by cases e)⟩
  refine ⟨fun v w' => v = false ∧ w' = w12, fun v w' ⟨hv, hw⟩ => ⟨fun e => (by rw [hv] at e; cases e), fun _ => ?_⟩, fun e => absurd rfl e, fun _ => ⟨rfl, rfl⟩⟩
  subst hw
  intro b16 w17 e16 e17
  have h17 := h12.alloc' e16 e17
  -- the block that tells what should be read
  let nw : List Int → Nat × Obj := fun now => (b16, .cells (u8s now).toArray 46 (0, 0))
  have h17' : Own w0 Im8 w17 (c.L (d.L ++ [nw (List.replicate 12 0)])) := h17.perm (front c d _).symm
  have hzero : Tells (List.replicate 12 0) (val c d) := by
    refine ⟨by simp, fun n x hx => ?_⟩
    rw [List.getElem?_replicate] at hx
    split at hx
    · rename_i hn
      simp at hx; subst hx
      rw [hval]
      exact D_zero hd hS hpl (by omega) (by omega)
    · cases hx
  have hnowcell : ∀ {Im' : Mem} {w' : World} {c' : CacheG} {d' : DiskG} {now : List Int} {n : Nat} {x : Int}, Own w0 Im' w' (c'.L (d'.L ++ [nw now])) → now[n]? = some x → w'.cell? ⟨b16, n, none⟩ = some (.int .u8 x) := by
    intro Im' w' c' d' now n x ho hx
    rw [(ho.perm (front c' d' _)).cell 0 rfl n]
    exact now_cell hx
  refine ⟨fun w18 => ∃ Im' c' d' now, Im8.le Im' ∧ Own w0 Im' w18 (c'.L (d'.L ++ [nw now])) ∧ CI Im' c' d' 12 rm ∧ c'.cb = c.cb ∧ d'.db = d.db ∧ Tells now (val c' d') ∧ d'.S.length ≤ ops.length, ?_, ?_⟩
  · -- behind the calls
    rintro w18 ⟨Im1, c1, d1, now, hle1, h18, hci1, hcb1, hdb1, htell, hS1⟩
    refine at_cb hcb1 ?_
    refine s15 h18 hci1 fun Im20 w20 a19 k19 dl hle20 h20 hdl hdn hdm => ⟨_, _, _, rfl, ?_⟩
    have hfew := dirty_few hci1 hdn hdm
    refine ⟨fun w22 => ∃ Im' c' d', Im20.le Im' ∧ Own w0 Im' w22 (c'.L (d'.L ++ [nw now])) ∧ CI Im' c' d' 12 rm ∧ c'.cb = c.cb ∧ d'.db = d.db ∧ Tells now (val c' d') ∧ (∀ m, ¬ dty c' m) ∧ d'.S.length ≤ ops.length + 12, ?_, ?_⟩
    · rintro w22 ⟨Im2, c2, d2, hle2, h22, hci2, hcb2, hdb2, htell2, hcl2, hS2⟩
      refine at_cb hdb2 ?_
      refine s17 (h22.perm (c_perm c2 d2.L _)) hci2.dk (by omega) fun w24 d3 r h24 hd3 hdb3 hS3 hD3 => ⟨_, rfl, ?_⟩
      have h24' : Own w0 Im2 w24 (c2.L (d3.L ++ [nw now])) := h24.perm (c_perm c2 d3.L _).symm
      have hci3 : CI Im2 c2 d3 12 rm := ⟨hd3, hci2.ok, hci2.good, hci2.db.trans hdb3.symm, hci2.rm, hci2.hi, hci2.len, hci2.rng, fun r hr hdr => by
        rw [hci2.clean r hr hdr]
        have := hci2.rng r hr
        exact (hD3 r.n this.1 this.2).symm⟩
      refine at_cb hcb2 ?_
      refine s15 h24' hci3 fun Im27 w27 a26 k26 ns hle27 h27 hni hnn hnm => ⟨_, _, _, rfl, fun hne => ?_, fun _ => ?_⟩
      · exfalso
        apply hne
        match ns, hnm with
        | [], _ => rfl
        | m :: t, hnm => exact absurd ((hnm m).1 (by simp)) (hcl2 m)
      refine at_cb (hdb3.trans hdb2) ?_
      refine s18 (h27.perm (c_perm c2 d3.L _)) (hd3.mono hle27) hS3 fun w30 d4 h30 hd4 hdb4 hD4 => ⟨_, rfl, fun e => absurd rfl e, fun _ => ?_⟩
      have htell4 : Tells now d4.D := ⟨htell2.1, fun n x hx => by
        have hn : n < 12 := by have := (List.getElem?_eq_some_iff.1 hx).1; have := htell2.1; omega
        rw [hD4, hD3 n (by omega) (by omega), ← val_clean hci2 hcl2]; exact htell2.2 n x hx⟩
      refine ⟨fun m v w' => ∃ Im' d' j, m = 12 - j ∧ v = (j : Nat) ∧ j ≤ 12 ∧ Im27.le Im' ∧ Own w0 Im' w' (d'.L ++ c2.L [nw now]) ∧ DiskOk Im' d' 12 ∧ d'.db = d.db ∧ Tells now d'.D,
        ⟨_, Im27, d4, 0, rfl, rfl, by omega, Mem.le_refl _, h30, hd4, hdb4.trans (hdb3.trans hdb2), htell4⟩, ?_⟩
      rintro m v w34 ⟨Im5, d5, j, rfl, rfl, hj, hle5, h34, hd5, hdb5, ht5⟩
      have hl5 : Im8.le Im5 := Mem.le_trans hle1 (Mem.le_trans hle20 (Mem.le_trans hle2 (Mem.le_trans hle27 hle5)))
      refine ⟨fun hjl => ?_, fun hjg => hdone _ _ _ hl5 h34⟩
      have hj' : j < 12 := by omega
      refine at_cb hdb5 ?_
      refine s19 h34 hd5 (fun hno => absurd ⟨by omega, by omega⟩ hno) fun _ _ Im6 w37 r6 a35 k35 hle6 h37 hb35 => ⟨_, _, _, _, rfl, fun e => absurd rfl e, fun _ => ⟨by omega, by omega, ?_⟩⟩
      have h37' : Own w0 Im6 w37 (c2.L (({ d5 with reads := r6 } : DiskG).L ++ [nw now])) := h37.perm (c_perm c2 _ _).symm
      have hjx : now[j]? = some (now[j]'(by have := ht5.1; omega)) := by simp
      have ej : (((j : Nat) : Int)).toNat * 1 = j := by omega
      refine ⟨_, by rw [ej, Nat.zero_add]; exact hnowcell h37' hjx, ?_⟩
      refine s12 h37' fun Im7 w41 a40 k40 hle7 h41 hb40 => ⟨_, _, _, rfl, ?_⟩
      refine s10 h41 (hb35.mono hle7) hb40 (by omega) fun w44 h44 => ⟨_, rfl, fun _ r46 e46 => ?_, fun e => ?_⟩
      · rw [wrap_id (by omega) (by omega)] at e46
        exact ⟨_, by omega, Im7, { d5 with reads := r6 }, j + 1, rfl, by omega, by omega, Mem.le_trans hle5 (Mem.le_trans hle6 hle7), h44.perm (c_perm c2 _ _), (hd5.reads r6).mono (Mem.le_trans hle6 hle7), hdb5, ht5⟩
      · exfalso
        rw [ht5.2 j _ hjx] at e
        simp at e
    · -- all that is dirty goes back
      refine ⟨fun m v w' => ∃ Im' c' d' j, m = dl.length - j ∧ v = (j : Nat) ∧ j ≤ dl.length ∧ Im20.le Im' ∧ Own w0 Im' w' (c'.L (d'.L ++ [nw now])) ∧ CI Im' c' d' 12 rm ∧ c'.cb = c.cb ∧ d'.db = d.db ∧ Tells now (val c' d') ∧ (∀ m, dty c' m ↔ m ∈ dl.drop j) ∧ d'.S.length ≤ ops.length + j,
        ⟨_, Im20, c1, d1, 0, rfl, rfl, by omega, Mem.le_refl _, h20, hci1.mono hle20, hcb1, hdb1, htell, fun m => (hdm m).symm, by omega⟩, ?_⟩
      rintro m v w50 ⟨Im2, c2, d2, j, rfl, rfl, hj, hle2, h50, hci2, hcb2, hdb2, ht2, hdt2, hS2⟩
      refine ⟨fun hjl => ?_, fun hjg => ⟨Im2, c2, d2, hle2, h50, hci2, hcb2, hdb2, ht2, fun m hm => ?_, by omega⟩⟩
      · have hj' : j < dl.length := by omega
        obtain ⟨b51, o52, ea, hcell⟩ := (hdl.mono hle2).cell h50 (k := j) (v := dl[j]) (by simp [hj'])
        have ej : ((j : Nat) : Int).toNat = j := by omega
        have edrop : dl.drop j = dl[j] :: dl.drop (j + 1) := List.drop_eq_getElem_cons hj'
        refine ⟨_, _, ea, by omega, hjl, _, by rw [ej]; exact hcell, ?_⟩
        refine at_cb hcb2 ?_
        refine s13 h50 hci2 (by omega) (fun hno => absurd ((hdt2 dl[j]).2 (edrop ▸ List.mem_cons_self ..)) hno) fun _ Im3 w56 c3 d3 hle3 h56 hci3 hcb3 hdb3 hns3 hS3 hval3 hdty3 => ⟨_, _, rfl, fun _ => ⟨fun e => absurd rfl e, fun _ r58 e58 => ?_⟩, fun e => (by cases e)⟩
        rw [wrap_id (by omega) (by omega)] at e58
        refine ⟨_, by omega, Im3, c3, d3, j + 1, rfl, by omega, by omega, Mem.le_trans hle2 hle3, h56, hci3, hcb3.trans hcb2, hdb3.trans hdb2, ⟨ht2.1, fun n x hx => by rw [hval3]; exact ht2.2 n x hx⟩, fun m => ?_, by omega⟩
        rw [hdty3, hdt2, edrop, List.mem_cons]
        have hnd : dl[j] ∉ dl.drop (j + 1) := fun hm => by
          obtain ⟨q, hq, e⟩ := List.mem_iff_getElem.1 hm
          rw [List.getElem_drop] at e
          have hq' : j + 1 + q < dl.length := by simp at hq; omega
          have := nodup_inj hdn hq' hj' e
          omega
        constructor
        · rintro ⟨hne, hm | hm⟩
          · exact absurd hm hne
          · exact hm
        · exact fun hm => ⟨fun e => hnd (e ▸ hm), .inr hm⟩
      · have := (hdt2 m).1 hm
        rw [List.drop_eq_nil_of_le (by omega)] at this
        cases this
  · -- the calls
    refine ⟨fun m v w' => ∃ Im' c' d' now i, m = ops.length - i ∧ v = (i : Nat) ∧ i ≤ ops.length ∧ Im8.le Im' ∧ Own w0 Im' w' (c'.L (d'.L ++ [nw now])) ∧ CI Im' c' d' 12 rm ∧ c'.cb = c.cb ∧ d'.db = d.db ∧ Tells now (val c' d') ∧ d'.S.length ≤ i,
      ⟨_, Im8, c, d, List.replicate 12 0, 0, rfl, rfl, by omega, Mem.le_refl _, h17', hci, rfl, rfl, hzero, by rw [hS]; simp⟩, ?_⟩
    rintro m v w62 ⟨Im', c', d', now, i, rfl, rfl, hi, hle, h62, hci', hcb, hdb, ht, hSl⟩
    refine ⟨fun hlt => ?_, fun hge => ⟨Im', c', d', now, hle, h62, hci', hcb, hdb, ht, by omega⟩⟩
    have hi' : i < ops.length := by omega
    obtain ⟨b63, o64, ea, hcells⟩ := (hops.mono (Mem.le_trans hle8 hle)).cells h62 hi'
    have et : ((i : Nat) : Int).toNat = i := by omega
    refine ⟨_, _, ea, by omega, hlt, _, _, _, _, by rw [et]; exact hcells, fun b69 w70 e69 e70 => ?_⟩
    have h70 := h62.alloc' e69 e70
    refine ⟨h70.putOk 0 rfl (by simp), fun w71 e71 => ?_⟩
    have h71 : Own w0 Im' w71 ((b69, .cells #[.int .i64 ops[i].kind, .int .i64 ops[i].n, .int .u8 ops[i].fill, .int .i64 ops[i].short] 32 (0, 0)) :: c'.L (d'.L ++ [nw now])) := by
      rw [e71]; exact h70.put [.int .i64 ops[i].kind, .int .i64 ops[i].n, .int .u8 ops[i].fill, .int .i64 ops[i].short] 0 0 rfl 0
    obtain ⟨hk71, hle71⟩ := h71.hold
    have hkeep : ∀ {Im2 w2 L2}, (Im'.add b69 (.cells #[.int .i64 ops[i].kind, .int .i64 ops[i].n, .int .u8 ops[i].fill, .int .i64 ops[i].short] 32 (0, 0))).le Im2 → Own w0 Im2 w2 L2 → ∀ j, w2.cell? ⟨b69, j, none⟩ = (#[.int .i64 ops[i].kind, .int .i64 ops[i].n, .int .u8 ops[i].fill, .int .i64 ops[i].short] : Array Value)[j]? := fun hl ho j => cell_of (ho.im _ _ (hl _ _ (by unfold Mem.add; exact if_pos rfl))) j
    generalize hIm : Im'.add b69 (.cells #[.int .i64 ops[i].kind, .int .i64 ops[i].n, .int .u8 ops[i].fill, .int .i64 ops[i].short] 32 (0, 0)) = Im71 at hk71 hle71 hkeep
    have hciA := hci'.mono hle71
    have hleA := Mem.le_trans hle hle71
    have next : ∀ (Im2 : Mem) (w2 : World) (c2 : CacheG) (d2 : DiskG) (now2 : List Int), Im71.le Im2 → Own w0 Im2 w2 (c2.L (d2.L ++ [nw now2])) → CI Im2 c2 d2 12 rm → c2.cb = c'.cb → d2.db = d'.db → Tells now2 (val c2 d2) → d2.S.length ≤ d'.S.length + 1 → ∀ r, r = IntKind.wrap .i64 (((i : Nat) : Int) + 1) →
        ∃ m52, m52 < ops.length - i ∧ ∃ Im' c' d' now k, m52 = ops.length - k ∧ r = (k : Nat) ∧ k ≤ ops.length ∧ Im8.le Im' ∧ Own w0 Im' w2 (c'.L (d'.L ++ [nw now])) ∧ CI Im' c' d' 12 rm ∧ c'.cb = c.cb ∧ d'.db = d.db ∧ Tells now (val c' d') ∧ d'.S.length ≤ k := by
      intro Im2 w2 c2 d2 now2 hl2 ho hc1 hcb2 hdb2 ht2 hs2 r hr
      rw [wrap_id (by omega) (by omega)] at hr
      exact ⟨ops.length - (i + 1), by omega, Im2, c2, d2, now2, i + 1, rfl, by omega, by omega, Mem.le_trans hleA hl2, ho, hc1, hcb2.trans hcb, hdb2.trans hdb, ht2, by omega⟩
    refine ⟨_, hkeep (Mem.le_refl _) hk71 0, fun _ => ?_, fun _ => ⟨fun _ => ?_, fun _ => ⟨fun _ => ?_, fun _ => ⟨fun _ => ?_, fun _ => ?_⟩⟩⟩⟩
    · refine ⟨_, hkeep (Mem.le_refl _) hk71 1, ?_⟩
      refine at_cb hcb ?_
      refine s9 hk71 hciA (fun hno w76 h76 => ⟨_, _, _, _, rfl, fun e => absurd e (by omega), fun _ => ?_⟩) (fun _ _ _ _ w76 h76 => ⟨_, _, _, _, rfl, fun e => absurd e (by omega), fun _ => ?_⟩) fun hn0 hn1 Im76 w76 c2 d2 a2 k2 h76 hs hin hb => ⟨_, _, _, _, rfl, fun _ => ?_, fun e => absurd rfl e⟩
      · exact next Im71 w76 c' d' now (Mem.le_refl _) h76 hciA rfl rfl ht (by omega)
      · exact next Im71 w76 c' d' now (Mem.le_refl _) h76 hciA rfl rfl ht (by omega)
      · have hj : (ops[i].n).toNat < now.length := by have := ht.1; omega
        have hjx : now[(ops[i].n).toNat]? = some (now[(ops[i].n).toNat]) := by simp [hj]
        have ej : (0 + (ops[i].n).toNat * 1) = (ops[i].n).toNat := by omega
        refine ⟨_, hkeep hs.le h76 1, fun e => absurd e (by omega), fun _ => ⟨_, hkeep hs.le h76 1, fun e => absurd e (by omega), fun _ => ⟨_, hkeep hs.le h76 1, hn0, by omega, _, by rw [ej]; exact hnowcell h76 hjx, ?_⟩⟩⟩
        refine s12 h76 fun Im83 w83 a82 k82 hle83 h83 hb82 => ⟨_, _, _, rfl, ?_⟩
        refine s10 h83 (hb.mono hle83) hb82 (by omega) fun w86 h86 => ⟨_, rfl, fun _ => ?_, fun e => ?_⟩
        · exact next Im83 w86 c2 d2 now (Mem.le_trans hs.le hle83) h86 (hs.ci.mono hle83) hs.cb hs.db ⟨ht.1, fun n x hx => by rw [hs.val]; exact ht.2 n x hx⟩ (by rw [hs.S]; omega)
        · exfalso
          have e2 : ((ops[i].n).toNat : Int) = ops[i].n := by omega
          have := ht.2 _ _ hjx
          rw [e2] at this
          rw [this] at e
          simp at e
    · have hq := hk71.drew
      refine ⟨_, hkeep (Mem.le_refl _) hq 1, _, hkeep (Mem.le_refl _) hq 2, ?_⟩
      refine s12 hq fun Im95 w95 a94 k94 hle95 h95 hb95 => ⟨_, _, _, rfl, hkeep hle95 h95 1, ?_⟩
      refine at_cb hcb ?_
      refine s11 h95 (hciA.mono hle95) hb95 (fun _ w97 h97 => ⟨_, rfl, fun e => absurd e (by omega), fun _ => ?_⟩) (fun _ _ _ _ w97 h97 => ⟨_, rfl, fun e => absurd e (by omega), fun _ => ?_⟩) fun hn0 hn1 Im97 w97 c2 hle97 h97 hci97 hcb97 _ hval97 _ => ⟨_, rfl, fun _ => ?_, fun e => absurd rfl e⟩
      · exact next Im95 w97 c' d' now hle95 h97 (hciA.mono hle95) rfl rfl ht (by omega)
      · exact next Im95 w97 c' d' now hle95 h97 (hciA.mono hle95) rfl rfl ht (by omega)
      · have hl97 := Mem.le_trans hle95 hle97
        have hj : (ops[i].n).toNat < now.length := by have := ht.1; omega
        have hjx : now[(ops[i].n).toNat]? = some (now[(ops[i].n).toNat]) := by simp [hj]
        have ej : (0 + (ops[i].n).toNat * 1) = (ops[i].n).toNat := by omega
        have hf := h97.perm (front c2 d' _)
        refine ⟨_, hkeep hl97 h97 1, fun e => absurd e (by omega), fun _ => ⟨_, hkeep hl97 h97 1, fun e => absurd e (by omega), fun _ => ⟨_, hkeep hl97 h97 1, _, hkeep hl97 h97 2, hn0, by omega, ?_⟩⟩⟩
        rw [ej]
        refine ⟨by rw [hnowcell h97 hjx]; rfl, hf.frozen 0 rfl _, fun w102 e102 => ?_⟩
        have h102 := hf.set 0 rfl (ops[i].n).toNat (.int .u8 ops[i].fill)
        rw [← e102] at h102
        have h102' : Own w0 Im97 w102 (nw (now.set (ops[i].n).toNat ops[i].fill) :: c2.L (d'.L ++ [])) := by
          have e : (u8s now).toArray.setIfInBounds (ops[i].n).toNat (.int .u8 ops[i].fill) = (u8s (now.set (ops[i].n).toNat ops[i].fill)).toArray := by
            simp [u8s, List.map_set]
          rw [e] at h102
          exact h102
        refine next Im97 w102 c2 d' _ hl97 (h102'.perm (front c2 d' _).symm) hci97 hcb97 rfl ⟨by rw [List.length_set]; exact ht.1, fun n x hx => ?_⟩ (by omega)
        rw [hval97]
        by_cases e : n = (ops[i].n).toNat
        · subst e
          rw [List.getElem?_set_self hj] at hx
          simp at hx; subst hx
          rw [if_pos (by omega)]
        · rw [List.getElem?_set_ne (fun h => e h.symm)] at hx
          rw [if_neg (by omega)]; exact ht.2 n x hx
    · refine ⟨_, hkeep (Mem.le_refl _) hk71 1, ?_⟩
      refine at_cb hcb ?_
      refine s13 hk71 hciA (by omega) (fun _ w110 h110 => ⟨_, _, rfl, ?_⟩) fun _ Im110 w110 c2 d2 hle110 h110 hci110 hcb110 hdb110 hns110 hS110 hval110 _ => ⟨_, _, rfl, ?_⟩
      · exact next Im71 w110 c' d' now (Mem.le_refl _) h110 hciA rfl rfl ht (by omega)
      · exact next Im110 w110 c2 d2 now hle110 h110 hci110 hcb110 hdb110 ⟨ht.1, fun n x hx => by rw [hval110]; exact ht.2 n x hx⟩ (by omega)
    · refine at_cb hcb ?_
      refine s14 hk71 hciA fun Im115 w115 c2 r hle115 h115 hci115 hev => ⟨_, rfl, ?_⟩
      exact next Im115 w115 c2 d' now hle115 h115 hci115 hev.cb rfl ⟨ht.1, fun n x hx => by rw [val_evict hciA hci115.ok.rn hev]; exact ht.2 n x hx⟩ (by omega)
    · exact next Im71 w71 c' d' now (Mem.le_refl _) hk71 hciA rfl rfl ht (by omega)
end
end Go.Proofs.Ytgkcckghmlccnaa
