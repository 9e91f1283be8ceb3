/- A part of the proof: lemmas. -/
import Derived.Test.YtgkcckghmlccnaaVcBufI
namespace Go.Proofs.Ytgkcckghmlccnaa
open Go Go.Vc
set_option maxRecDepth 100000
set_option linter.unusedVariables false

structure Op where
  kind : Int
  n : Int
  fill : Int
  short : Int
def Op.cells (o : Op) : List Value := [.int .i64 o.kind, .int .i64 o.n, .int .u8 o.fill, .int .i64 o.short]
/-- A slice of calls in what is held for good. -/
def OpsIn (Im : Mem) (a : Option Addr) (l : Nat) (ops : List Op) : Prop :=
  l = ops.length ∧ ∀ i op, ops[i]? = some op → ∃ b o cs T z, a = some ⟨b, o, none⟩ ∧ Im b = some (.cells cs T z) ∧ ∀ j v, op.cells[j]? = some v → cs[o + i * 4 + j]? = some v
theorem OpsIn.mono {Im Im' : Mem} (h : Im.le Im') {a : Option Addr} {l : Nat} {ops : List Op} (ho : OpsIn Im a l ops) : OpsIn Im' a l ops :=
  ⟨ho.1, fun i op hi => let ⟨b, o, cs, T, z, h1, h2, h3⟩ := ho.2 i op hi; ⟨b, o, cs, T, z, h1, h _ _ h2, h3⟩⟩
theorem OpsIn.cells {w0 w : World} {Im : Mem} {L : List (Nat × Obj)} (h : Own w0 Im w L) {a : Option Addr} {l : Nat} {ops : List Op} (ho : OpsIn Im a l ops) {i : Nat} (hi : i < ops.length) :
    ∃ b o, a = some ⟨b, o, none⟩ ∧ CellsAt w ⟨b, o + i * 4, none⟩ (ops[i]).cells := by
  obtain ⟨b, o, cs, T, z, h1, h2, h3⟩ := ho.2 i ops[i] (by simp [hi])
  refine ⟨b, o, h1, fun j v hj => ?_⟩
  rw [add_none, cell_of (h.im _ _ h2)]
  exact h3 j v hj

section
variable {w0 w : World} {Im : Mem} {Fr L : List (Nat × Obj)} {c : CacheG} {d : DiskG} {cnt : Nat} {room : Int} {R : Ending → World → Prop}

theorem L_app (c : CacheG) (A B : List (Nat × Obj)) : c.L (A ++ B) = c.L A ++ B := by unfold CacheG.L; simp
theorem swap2 (c x : CacheG) (d e : DiskG) : (c.L (d.L ++ x.L (e.L ++ []))).Perm (x.L (e.L ++ c.L (d.L ++ []))) := by
  simp only [L_app, List.append_nil]
  exact List.perm_append_comm

/-- sameBytes of nothing and nothing. -/
theorem s10n {k k' : Nat} (hR : R (.returned (.bool true)) w) : Calls Try.prog 10 #[.slice none 0 k, .slice none 0 k'] w R := by
  apply vc10
  unfold Vc10
  refine ⟨fun e => absurd rfl e, fun _ => ⟨fun m v w' => v = 0 ∧ w' = w, ⟨0, rfl, rfl⟩, ?_⟩⟩
  rintro m v w' ⟨rfl, rfl⟩
  exact ⟨fun e => absurd e (by decide), fun _ => hR⟩
theorem at_cb {P : Program} {f n m : Nat} (e : n = m) {vs : List Value} (H : Calls P f (Value.pointer (some ⟨n, 0, none⟩) :: vs).toArray w R) : Calls P f (Value.pointer (some ⟨m, 0, none⟩) :: vs).toArray w R := e ▸ H

/-- The law BufSame. -/
theorem s3 (h : Own w0 Im w []) {a : Option Addr} {l k : Nat} {ops : List Op} (hops : OpsIn Im a l ops) (hl : l ≤ 4398046510976) {rm other : Int}
    (hR : ∀ Im' w', Im.le Im' → Own w0 Im' w' [] → R (.returned (.bool true)) w') :
    Calls Try.prog 3 #[.int .i64 rm, .int .i64 other, .slice a l k] w R := by
  apply vc3
  unfold Vc3
  refine s6 h (by omega) (by omega) fun w6 d h6 hd hS hpl => ⟨_, _, rfl, ?_⟩
  refine s6 h6 (by omega) (by omega) fun w10 e h10 he hSe hple => ⟨_, _, rfl, fun e => absurd rfl e, fun _ => ⟨fun e => absurd rfl e, fun _ => ⟨fun e => (by cases e), fun _ => ⟨fun e => (by cases e), fun _ => ?_⟩⟩⟩⟩
  refine s7 h10 fun Im13 w13 hle13 h13 => ⟨_, rfl, fun _ => ?_, fun e => (by cases e)⟩
  have hd13 := hd.mono hle13
  have he13 := he.mono hle13
  have hdone : ∀ Im' w' L, Im13.le Im' → Own w0 Im' w' L → R (.returned (.bool true)) w' := fun Im' w' L hle ho => hR Im' w' (Mem.le_trans hle13 hle) (ho.sub (List.nil_sublist _))
  have h13d := h13.perm (List.perm_append_comm (l₁ := e.L) (l₂ := d.L ++ []))
  rw [List.append_assoc, List.nil_append] at h13d
  refine s8 h13d hd13 (fun hno => ⟨_, _, rfl, ?_⟩) fun hr1 hr2 w17 c hns h17 hci hval hdty => ⟨_, _, rfl, ?_⟩
  · have h13e := h13
    refine s8 h13e he13 (fun hno2 => ⟨_, _, rfl, ?_⟩) fun _ _ w21 x hnsx h21 hcix hvalx hdtyx => ⟨_, _, rfl, ?_⟩
    · exact ⟨fun v w' => v = true ∧ w' = w13, fun v w' ⟨hv, hw⟩ => ⟨fun _ => ⟨fun _ => by subst hw; exact hdone _ _ _ (Mem.le_refl _) h13, fun e => (by simp at e)⟩, fun e => (by rw [hv] at e; cases e)⟩, fun _ => ⟨rfl, rfl⟩, fun e => (by cases e)⟩
    · exact ⟨fun v w' => v = true ∧ w' = w21, fun v w' ⟨hv, hw⟩ => ⟨fun _ => ⟨fun _ => by subst hw; exact hdone _ _ _ (Mem.le_refl _) h21, fun e => (by simp at e)⟩, fun e => (by rw [hv] at e; cases e)⟩, fun _ => ⟨rfl, rfl⟩, fun e => (by cases e)⟩
  · have h17e := h17.perm (show (c.L (d.L ++ e.L)).Perm (e.L ++ c.L (d.L ++ [])) by
      rw [List.append_nil]
      simp only [L_app]; exact List.perm_append_comm)
    refine s8 h17e he13 (fun hno2 => ⟨_, _, rfl, ?_⟩) fun hr3 hr4 w21 x hnsx h21 hcix hvalx hdtyx => ⟨_, _, rfl, ?_⟩
    · exact ⟨fun v w' => v = true ∧ w' = w17, fun v w' ⟨hv, hw⟩ => ⟨fun _ => ⟨fun _ => by subst hw; exact hdone _ _ _ (Mem.le_refl _) h17, fun e => (by simp at e)⟩, fun e => (by rw [hv] at e; cases e)⟩, fun e => absurd rfl e, fun _ => ⟨fun _ => ⟨rfl, rfl⟩, fun e => (by cases e)⟩⟩
    · refine ⟨fun v w' => v = false ∧ w' = w21, fun v w' ⟨hv, hw⟩ => ⟨fun e => (by rw [hv] at e; cases e), fun _ => ?_⟩, fun e => absurd rfl e, fun _ => ⟨fun e => absurd rfl e, fun _ => ⟨fun e => (by cases e), fun _ => ⟨rfl, rfl⟩⟩⟩⟩
      subst hw
      have hzero : ∀ n, d.D n = e.D n := fun n => by unfold DiskG.D; rw [hS, hSe, hpl, hple]
      refine ⟨fun m v w' => ∃ Im' c' d' x' e' k, m = ops.length - k ∧ v = (k : Nat) ∧ k ≤ ops.length ∧ Im13.le Im' ∧ Own w0 Im' w' (c'.L (d'.L ++ x'.L (e'.L ++ []))) ∧ CI Im' c' d' 12 rm ∧ CI Im' x' e' 12 other ∧ c'.cb = c.cb ∧ x'.cb = x.cb ∧ (∀ n, val c' d' n = val x' e' n) ∧ d'.S.length ≤ k ∧ e'.S.length ≤ k,
        ⟨_, Im13, c, d, x, e, 0, rfl, rfl, by omega, Mem.le_refl _, h21.perm (swap2 x c e d), hci, hcix, rfl, rfl, fun n => by rw [hval, hvalx]; exact hzero n, by rw [hS]; simp, by rw [hSe]; simp⟩, ?_⟩
      rintro m v w27 ⟨Im', c', d', x', e', i, rfl, rfl, hi, hle, h27, hci', hcix', hcb, hcbx, hvv, hSl, hSle⟩
      have hlen := hops.1
      refine ⟨fun hlt => ?_, fun hge => hdone _ _ _ hle h27⟩
      have hi' : i < ops.length := by omega
      have hopsI := (hops.mono (Mem.le_trans hle13 hle))
      obtain ⟨b28, o29, ea, hcells⟩ := hopsI.cells h27 hi'
      have et : ((i : Nat) : Int).toNat = i := by omega
      refine ⟨_, _, ea, by omega, hlt, _, _, _, _, by rw [et]; exact hcells, fun b34 w35 e34 e35 => ?_⟩
      have h35 := h27.alloc' e34 e35
      refine ⟨h35.putOk 0 rfl (by simp), fun w36 e36 => ?_⟩
      have h36 : Own w0 Im' w36 ((b34, .cells #[.int .i64 ops[i].kind, .int .i64 ops[i].n, .int .u8 ops[i].fill, .int .i64 ops[i].short] 32 (0, 0)) :: c'.L (d'.L ++ x'.L (e'.L ++ []))) := by
        rw [e36]; exact h35.put [.int .i64 ops[i].kind, .int .i64 ops[i].n, .int .u8 ops[i].fill, .int .i64 ops[i].short] 0 0 rfl 0
      obtain ⟨hk36, hle36⟩ := h36.hold
      have hkeep : ∀ {Im2 w2 L2}, (Im'.add b34 (.cells #[.int .i64 ops[i].kind, .int .i64 ops[i].n, .int .u8 ops[i].fill, .int .i64 ops[i].short] 32 (0, 0))).le Im2 → Own w0 Im2 w2 L2 → ∀ j, w2.cell? ⟨b34, j, none⟩ = (#[.int .i64 ops[i].kind, .int .i64 ops[i].n, .int .u8 ops[i].fill, .int .i64 ops[i].short] : Array Value)[j]? := fun hl ho j => cell_of (ho.im _ _ (hl _ _ (by unfold Mem.add; exact if_pos rfl))) j
      generalize hIm : Im'.add b34 (.cells #[.int .i64 ops[i].kind, .int .i64 ops[i].n, .int .u8 ops[i].fill, .int .i64 ops[i].short] 32 (0, 0)) = Im36 at hk36 hle36 hkeep
      have hciA := hci'.mono hle36
      have hcixA := hcix'.mono hle36
      have hleA := Mem.le_trans hle hle36
      have next : ∀ Im2 w2 c2 d2 x2 e2, Im36.le Im2 → Own w0 Im2 w2 (c2.L (d2.L ++ x2.L (e2.L ++ []))) → CI Im2 c2 d2 12 rm → CI Im2 x2 e2 12 other → c2.cb = c'.cb → x2.cb = x'.cb → (∀ n, val c2 d2 n = val x2 e2 n) → d2.S.length ≤ d'.S.length + 1 → e2.S.length ≤ e'.S.length + 1 → ∀ r, r = IntKind.wrap .i64 (((i : Nat) : Int) + 1) →
          ∃ m52, m52 < ops.length - i ∧ ∃ Im' c' d' x' e' k, m52 = ops.length - k ∧ r = (k : Nat) ∧ k ≤ ops.length ∧ Im13.le Im' ∧ Own w0 Im' w2 (c'.L (d'.L ++ x'.L (e'.L ++ []))) ∧ CI Im' c' d' 12 rm ∧ CI Im' x' e' 12 other ∧ c'.cb = c.cb ∧ x'.cb = x.cb ∧ (∀ n, val c' d' n = val x' e' n) ∧ d'.S.length ≤ k ∧ e'.S.length ≤ k := by
        intro Im2 w2 c2 d2 x2 e2 hl2 ho hc1 hc2 hcb2 hcbx2 hv2 hs2 hs3 r hr
        rw [wrap_id (by omega) (by omega)] at hr
        exact ⟨ops.length - (i + 1), by omega, Im2, c2, d2, x2, e2, i + 1, rfl, by omega, by omega, Mem.le_trans hleA hl2, ho, hc1, hc2, hcb2.trans hcb, hcbx2.trans hcbx, hv2, by omega, by omega⟩
      refine ⟨_, hkeep (Mem.le_refl _) hk36 0, fun hk1 => ?_, fun hk1 => ⟨fun hk2 => ?_, fun hk2 => ⟨fun hk3 => ?_, fun hk3 => ⟨fun hk4 => ?_, fun hk4 => ?_⟩⟩⟩⟩
      · -- Read
        refine ⟨_, hkeep (Mem.le_refl _) hk36 1, ?_⟩
        refine at_cb hcb ?_
        refine s9 hk36 hciA (fun hno w41 h41 => ?_) (fun _ _ _ _ w41 h41 => ?_) fun hn0 hn1 Im41 w41 c2 d2 a2 k2 h41 hs hin hb => ?_
        · refine ⟨_, _, _, _, rfl, _, hkeep (Mem.le_refl _) h41 1, ?_⟩
          refine at_cb hcbx ?_
          refine s9 (h41.perm (swap2 c' x' d' e')) hcixA (fun _ w46 h46 => ⟨_, _, _, _, rfl, fun e => absurd e (by omega), fun _ => ⟨fun e => absurd e (by omega), fun _ => ⟨fun e => absurd rfl e, fun _ => ?_⟩⟩⟩) (fun a b => absurd ⟨a, b⟩ hno) fun a b => absurd ⟨a, b⟩ hno
          refine s10n ⟨_, rfl, fun _ => ?_, fun e => (by cases e)⟩
          exact next Im36 w46 c' d' x' e' (Mem.le_refl _) (h46.perm (swap2 x' c' e' d')) hciA hcixA rfl rfl hvv (by omega) (by omega)
        · refine ⟨_, _, _, _, rfl, _, hkeep (Mem.le_refl _) h41 1, ?_⟩
          refine at_cb hcbx ?_
          refine s9 (h41.perm (swap2 c' x' d' e')) hcixA (fun _ w46 h46 => ⟨_, _, _, _, rfl, fun e => hdone _ _ _ hleA h46, fun e => absurd rfl e⟩) (fun _ _ _ _ w46 h46 => ⟨_, _, _, _, rfl, fun e => hdone _ _ _ hleA h46, fun e => absurd rfl e⟩) fun _ _ Im46 w46 c2 d2 a2 k2 h46 hs hin hb => ⟨_, _, _, _, rfl, fun e => hdone _ _ _ (Mem.le_trans hleA hs.le) h46, fun e => absurd rfl e⟩
        · refine ⟨_, _, _, _, rfl, _, hkeep hs.le h41 1, ?_⟩
          refine at_cb hcbx ?_
          refine s9 (h41.perm (swap2 c2 x' d2 e')) (hcixA.mono hs.le) (fun hno => absurd ⟨hn0, hn1⟩ hno) (fun _ _ _ _ w46 h46 => ⟨_, _, _, _, rfl, fun e => hdone _ _ _ (Mem.le_trans hleA hs.le) h46, fun _ => ⟨fun _ => hdone _ _ _ (Mem.le_trans hleA hs.le) h46, fun e => absurd rfl e⟩⟩) fun _ _ Im46 w46 x2 e2 a3 k3 h46 hsx hinx hbx => ⟨_, _, _, _, rfl, fun e => absurd e (by omega), fun _ => ⟨fun e => absurd e (by omega), fun _ => ⟨fun e => absurd rfl e, fun _ => ?_⟩⟩⟩
          refine s10 h46 (hb.mono hsx.le) hbx (by omega) fun w49 h49 => ⟨_, rfl, fun _ => ?_, fun e => ?_⟩
          · refine next Im46 w49 c2 d2 x2 e2 (Mem.le_trans hs.le hsx.le) (h49.perm (swap2 x2 c2 e2 d2)) (hs.ci.mono hsx.le) hsx.ci hs.cb hsx.cb (fun n => by rw [hs.val, hsx.val]; exact hvv n) (by rw [hs.S]; omega) (by rw [hsx.S]; omega)
          · exfalso; rw [hvv] at e; simp at e
      · -- Write
        have hq := hk36.drew
        refine ⟨_, hkeep (Mem.le_refl _) hq 1, _, hkeep (Mem.le_refl _) hq 2, _, hkeep (Mem.le_refl _) hq 1, _, hkeep (Mem.le_refl _) hq 2, ?_⟩
        refine s12 hq fun Im58 w58 a58 k58 hle58 h58 hb58 => ⟨_, _, _, rfl, hkeep hle58 h58 2, hkeep hle58 h58 1, hkeep hle58 h58 1, ?_⟩
        refine at_cb hcb ?_
        have hci58 := hciA.mono hle58
        have hcix58 := hcixA.mono hle58
        refine s11 h58 hci58 hb58 (fun hno w60 h60 => ?_) (fun _ _ _ _ w60 h60 => ?_) fun hn0 hn1 Im60 w60 c2 hle60 h60 hci60 hcb60 hin60 hval60 _ => ?_
        · refine ⟨_, rfl, hkeep hle58 h60 2, hkeep hle58 h60 1, ?_⟩
          refine s12 h60 fun Im62 w62 a62 k62 hle62 h62 hb62 => ⟨_, _, _, rfl, hkeep (Mem.le_trans hle58 hle62) h62 1, ?_⟩
          refine at_cb hcbx ?_
          refine s11 (h62.perm (swap2 c' x' d' e')) (hcix58.mono hle62) hb62 (fun _ w64 h64 => ⟨_, rfl, fun e => absurd e (by omega), fun _ => ⟨fun e => absurd e (by omega), fun _ => ⟨fun e => absurd rfl e, fun _ => ?_⟩⟩⟩) (fun a b => absurd ⟨a, b⟩ hno) fun a b => absurd ⟨a, b⟩ hno
          exact next Im62 w64 c' d' x' e' (Mem.le_trans hle58 hle62) (h64.perm (swap2 x' c' e' d')) (hci58.mono hle62) (hcix58.mono hle62) rfl rfl hvv (by omega) (by omega)
        · refine ⟨_, rfl, hkeep hle58 h60 2, hkeep hle58 h60 1, ?_⟩
          refine s12 h60 fun Im62 w62 a62 k62 hle62 h62 hb62 => ⟨_, _, _, rfl, hkeep (Mem.le_trans hle58 hle62) h62 1, ?_⟩
          refine at_cb hcbx ?_
          have hl62 := Mem.le_trans hleA (Mem.le_trans hle58 hle62)
          exact s11 (h62.perm (swap2 c' x' d' e')) (hcix58.mono hle62) hb62 (fun _ w64 h64 => ⟨_, rfl, fun e => hdone _ _ _ hl62 h64, fun e => absurd rfl e⟩) (fun _ _ _ _ w64 h64 => ⟨_, rfl, fun e => hdone _ _ _ hl62 h64, fun e => absurd rfl e⟩) fun _ _ Im64 w64 x2 hle64 h64 _ _ _ _ _ => ⟨_, rfl, fun e => hdone _ _ _ (Mem.le_trans hl62 hle64) h64, fun e => absurd rfl e⟩
        · have hl60 := Mem.le_trans hle58 hle60
          refine ⟨_, rfl, hkeep hl60 h60 2, hkeep hl60 h60 1, ?_⟩
          refine s12 h60 fun Im62 w62 a62 k62 hle62 h62 hb62 => ⟨_, _, _, rfl, hkeep (Mem.le_trans hl60 hle62) h62 1, ?_⟩
          refine at_cb hcbx ?_
          have hl62 := Mem.le_trans hl60 hle62
          refine s11 (h62.perm (swap2 c2 x' d' e')) (hcixA.mono hl62) hb62 (fun hno => absurd ⟨hn0, hn1⟩ hno) (fun _ _ _ _ w64 h64 => ⟨_, rfl, fun e => absurd e (by omega), fun _ => ⟨fun _ => hdone _ _ _ (Mem.le_trans hleA hl62) h64, fun e => absurd rfl e⟩⟩) fun _ _ Im64 w64 x2 hle64 h64 hcix64 hcbx64 hinx64 hvalx64 _ => ⟨_, rfl, fun e => absurd e (by omega), fun _ => ⟨fun e => absurd e (by omega), fun _ => ⟨fun e => absurd rfl e, fun _ => ?_⟩⟩⟩
          exact next Im64 w64 c2 d' x2 e' (Mem.le_trans hl62 hle64) (h64.perm (swap2 x2 c2 e' d')) (hci60.mono (Mem.le_trans hle62 hle64)) hcix64 hcb60 hcbx64 (fun n => by rw [hval60, hvalx64, hvv]) (by omega) (by omega)
      · -- Back
        refine ⟨_, hkeep (Mem.le_refl _) hk36 1, ?_⟩
        refine at_cb hcb ?_
        refine s13 hk36 hciA (by omega) (fun _ w70 h70 => ⟨_, _, rfl, ?_⟩) fun _ Im70 w70 c2 d2 hle70 h70 hci70 hcb70 hdb70 hns70 hS70 hval70 _ => ⟨_, _, rfl, ?_⟩
        · exact next Im36 w70 c' d' x' e' (Mem.le_refl _) h70 hciA hcixA rfl rfl hvv (by omega) (by omega)
        · exact next Im70 w70 c2 d2 x' e' hle70 h70 hci70 (hcixA.mono hle70) hcb70 rfl (fun n => by rw [hval70]; exact hvv n) (by omega) (by omega)
      · -- Forget
        refine at_cb hcbx ?_
        refine s14 (hk36.perm (swap2 c' x' d' e')) hcixA fun Im75 w75 x2 r hle75 h75 hcix75 hev => ⟨_, rfl, ?_⟩
        exact next Im75 w75 c' d' x2 e' hle75 (h75.perm (swap2 x2 c' e' d')) (hciA.mono hle75) hcix75 rfl hev.cb (fun n => by rw [val_evict hcixA hcix75.ok.rn hev]; exact hvv n) (by omega) (by omega)
      · exact next Im36 w36 c' d' x' e' (Mem.le_refl _) hk36 hciA hcixA rfl rfl hvv (by omega) (by omega)
end
end Go.Proofs.Ytgkcckghmlccnaa
