/- A part of the proof: lemmas. -/
import Derived.Test.YtgkcckghmlccnaaVcGenC
import Derived.Test.YtgkcckghmlccnaaVcVec
namespace Go.Proofs.Ytgkcckghmlccnaa
open Go Go.Vc
set_option maxRecDepth 100000
set_option linter.unusedVariables false

theorem wrap_id {n : Int} (h1 : -9223372036854775808 ≤ n) (h2 : n ≤ 9223372036854775807) : IntKind.wrap .i64 n = n := by rw [IntKind.wrap_i64]; omega

def u8s (bs : List Int) : List Value := bs.map (.int .u8 ·)
def i64s (bs : List Int) : List Value := bs.map (.int .i64 ·)
theorem u8s_one {bs : List Int} : ∀ u ∈ u8s bs, u.oneCell' = true := by
  intro u hu; obtain ⟨x, _, rfl⟩ := List.mem_map.1 hu; rfl
theorem i64s_one {bs : List Int} : ∀ u ∈ i64s bs, u.oneCell' = true := by
  intro u hu; obtain ⟨x, _, rfl⟩ := List.mem_map.1 hu; rfl
@[simp] theorem u8s_length {bs : List Int} : (u8s bs).length = bs.length := by simp [u8s]
@[simp] theorem i64s_length {bs : List Int} : (i64s bs).length = bs.length := by simp [i64s]

/-- Bytes held for good. -/
def BytesIn (Im : Mem) (a : Option Addr) (l : Nat) (bs : List Int) : Prop :=
  l = bs.length ∧ ∃ b o cs T z, a = some ⟨b, o, none⟩ ∧ Im b = some (.cells cs T z) ∧ ∀ j v, bs[j]? = some v → cs[o + j]? = some (.int .u8 v)
theorem BytesIn.mono {Im Im' : Mem} (h : Im.le Im') {a : Option Addr} {l : Nat} {bs : List Int} (hb : BytesIn Im a l bs) : BytesIn Im' a l bs := by
  obtain ⟨h1, b, o, cs, T, z, h2, h3, h4⟩ := hb
  exact ⟨h1, b, o, cs, T, z, h2, h _ _ h3, h4⟩
theorem BytesIn.cells {w0 w : World} {Im : Mem} {L : List (Nat × Obj)} (h : Own w0 Im w L) {a : Option Addr} {l : Nat} {bs : List Int} (hb : BytesIn Im a l bs) : ∃ b o, a = some ⟨b, o, none⟩ ∧ CellsAt w ⟨b, o, none⟩ (u8s bs) := by
  obtain ⟨h1, b, o, cs, T, z, h2, h3, h4⟩ := hb
  refine ⟨b, o, h2, fun j v hj => ?_⟩
  rw [add_none, cell_of (h.im b _ h3)]
  simp only [u8s, List.getElem?_map, Option.map_eq_some_iff] at hj
  obtain ⟨x, hx, rfl⟩ := hj
  exact h4 j x hx

/-- A pending write. -/
structure PW where
  n : Int
  a : Option Addr
  c : Nat
  bs : List Int
def PW.cells (p : PW) : List Value := [.int .i64 p.n, .slice p.a 512 p.c]
def lastW (S : List PW) (n : Int) : Option PW := S.reverse.find? fun p => decide (p.n = n)
theorem lastW_snoc (S : List PW) (p : PW) (n : Int) : lastW (S ++ [p]) n = if p.n = n then some p else lastW S n := by
  simp only [lastW, List.reverse_append, List.reverse_cons, List.reverse_nil, List.nil_append, List.cons_append, List.find?_cons]
  by_cases h : p.n = n <;> simp [h]
theorem lastW_mem {S : List PW} {n : Int} {p : PW} (h : lastW S n = some p) : p ∈ S ∧ p.n = n := by
  unfold lastW at h
  have h1 := List.mem_of_find?_eq_some h
  have h2 := List.find?_some h
  exact ⟨by simpa using h1, by simpa using h2⟩

/-- A disk's blocks and what they hold. -/
structure DiskG where
  db : Nat
  pb : Nat
  plb : List Int
  pend : VecB
  S : List PW
  mb : Nat
  M : List (Ent Int)
  clk : Nat
  left : Int
  reads : Int
  writes : Int
  flushes : Int
def DiskG.cells (d : DiskG) : Array Value :=
  #[.slice (some ⟨d.pb, 0, none⟩) d.plb.length d.plb.length, .slice (vecA d.pend) d.S.length (vecC d.pend), .map (some d.mb), .bool false, .int .i64 d.left, .int .i64 d.reads, .int .i64 d.writes, .int .i64 d.flushes]
def DiskG.L (d : DiskG) : List (Nat × Obj) := (d.db, .cells d.cells 51 (0, 0)) :: (d.pb, .cells (u8s d.plb).toArray 5 (0, 0)) :: (d.mb, mapObj (encI .i64) d.M d.clk) :: vecL 66 d.pend
/-- What a sector reads as. -/
def DiskG.D (d : DiskG) (n : Int) : List Int := match lastW d.S n with | some p => p.bs | none => (d.plb.drop (n.toNat * 512)).take 512
structure DiskOk (Im : Mem) (d : DiskG) (cnt : Nat) : Prop where
  len : d.plb.length = cnt * 512
  lo : 1 ≤ cnt
  hi : cnt ≤ 4096
  vec : VecOk 2 d.pend d.S.length (d.S.flatMap PW.cells)
  ws : ∀ p ∈ d.S, 0 ≤ p.n ∧ p.n < cnt ∧ BytesIn Im p.a 512 p.bs
  nd : (d.M.map (·.1)).Nodup
  map : ∀ n, aget d.M n = (lastW d.S n).map fun p => .slice p.a 512 p.c
theorem DiskOk.mono {Im Im' : Mem} (h : Im.le Im') {d : DiskG} {cnt : Nat} (hd : DiskOk Im d cnt) : DiskOk Im' d cnt :=
  ⟨hd.len, hd.lo, hd.hi, hd.vec, fun p hp => ⟨(hd.ws p hp).1, (hd.ws p hp).2.1, (hd.ws p hp).2.2.mono h⟩, hd.nd, hd.map⟩
theorem DiskOk.D_len {Im : Mem} {d : DiskG} {cnt : Nat} (hd : DiskOk Im d cnt) {n : Int} (h0 : 0 ≤ n) (h1 : n < cnt) : (d.D n).length = 512 := by
  unfold DiskG.D
  split
  · rename_i p hp
    have := (hd.ws p (lastW_mem hp).1).2.2.1
    exact this.symm
  · simp only [List.length_take, List.length_drop, hd.len]
    omega

section
variable {w0 w : World} {Im : Mem} {Fr L : List (Nat × Obj)} {d : DiskG} {cnt : Nat} {R : Ending → World → Prop}

theorem s24 (h : Own w0 Im w (d.L ++ Fr)) (hd : DiskOk Im d cnt) (hR : R (.returned (.int .i64 cnt)) w) : Calls Try.prog 24 #[.pointer (some ⟨d.db, 0, none⟩)] w R := by
  apply vc24
  unfold Vc24
  refine ⟨fun h => (by cases h), fun _ => ⟨_, _, rfl, _, _, _, h.cell 0 rfl _, ?_⟩⟩
  intro r hr
  have e : r = (cnt : Int) := by
    have := hd.len
    have := hd.hi
    rw [hr, IntKind.wrap_i64, Int.tdiv_eq_ediv_of_nonneg (by omega)]
    omega
  rw [e]; exact hR

theorem s33 (h : Own w0 Im w (d.L ++ Fr)) (hd : DiskOk Im d cnt) {n : Int} (hR : R (.returned (.bool (decide (0 ≤ n ∧ n < cnt)))) w) : Calls Try.prog 33 #[.pointer (some ⟨d.db, 0, none⟩), .int .i64 n] w R := by
  apply vc33
  unfold Vc33
  refine ⟨fun h0 => s24 h hd ⟨_, rfl, ?_⟩, fun h0 => ?_⟩
  · have e : decide (n < (cnt : Int)) = decide (0 ≤ n ∧ n < cnt) := by simp [h0]
    rw [e]; exact hR
  · have e : decide (0 ≤ n ∧ n < (cnt : Int)) = false := by simp [h0]
    rw [e] at hR; exact hR

theorem s41 (h : Own w0 Im w (d.L ++ Fr)) (hR : R (.returned (.bool false)) w) : Calls Try.prog 41 #[.pointer (some ⟨d.db, 0, none⟩)] w R := by
  apply vc41
  unfold Vc41
  refine ⟨fun _ => ⟨_, _, rfl, _, h.cell 0 rfl _, fun e => (by cases e), fun _ => hR⟩, fun e => (by cases e)⟩

theorem s30 (h : Own w0 Im w (d.L ++ Fr)) (hR : R (.returned (.bool true)) w) : Calls Try.prog 30 #[.pointer (some ⟨d.db, 0, none⟩)] w R := by
  apply vc30
  unfold Vc30
  refine s41 h ⟨_, rfl, fun e => (by cases e), fun _ => ⟨_, _, rfl, _, h.cell 0 rfl _, fun e => (by cases e), fun _ => hR⟩⟩

/-- slices.Clone of bytes: held for good. -/
theorem s23 (h : Own w0 Im w L) {b o l c : Nat} {bs : List Int} (hc : CellsAt w ⟨b, o, none⟩ (u8s bs)) (hl : bs.length = l) (h0 : 0 < l) (hb : l ≤ 140737488355328)
    (hR : ∀ Im' w' a' c', Im.le Im' → Own w0 Im' w' L → BytesIn Im' a' l bs → R (.returned (.slice a' l c')) w') : Calls Try.prog 23 #[.slice (some ⟨b, o, none⟩) l c] w R := by
  apply vc23
  unfold Vc23
  refine ⟨fun e => (by cases e), fun _ b2 w3 e1 e2 => ?_⟩
  have h3 := h.alloc' e1 e2
  have hc3 : CellsAt w3 ⟨b, o, none⟩ (u8s bs) := by subst e2; exact hc.alloc
  obtain ⟨x', w', hr, ho, hx⟩ := own_append (x := some (b2, 0, [])) (n := 0) (xs := []) (e := 5) (t := 33) (ty := 33) (L := L) (a := ⟨b, o, none⟩) (m := l) (c := c) (news := u8s bs) (bytes := 1) (size := 1) (z := .int .u8 0) Try.underlying33 Try.type5 rfl rfl rfl rfl
    (by simpa [vecL] using h3) ⟨by simp, by simp [vecC], by simp [vecC], by simp, by simp⟩ (by simp [hl]) hc3 u8s_one h0 (by omega) (by simp only [maxLen]; omega)
  simp only [Nat.zero_add, List.nil_append] at hr hx
  refine ⟨_, _, _, _, hr, ?_⟩
  cases x' with
  | none => have := hx.2.1; simp [vecC] at this; omega
  | some y =>
    obtain ⟨g, cap, cur⟩ := y
    have ho2 : Own w0 Im w' ((g, .cells cur.toArray 5 (0, 0)) :: L) := by simpa [vecL] using ho
    obtain ⟨hh, hle⟩ := ho2.hold
    refine hR _ _ _ _ hle hh ⟨hl.symm, g, 0, cur.toArray, 5, (0, 0), rfl, by simp [Mem.add], fun j v hj => ?_⟩
    obtain ⟨h1, h2, h3, h4, h5⟩ := hx
    have hj' : (u8s bs)[j]? = some (.int .u8 v) := by simp [u8s, hj]
    rw [← h5, List.getElem?_take] at hj'
    split at hj'
    · simpa using hj'
    · cases hj'

theorem s31 (h : Own w0 Im w (d.L ++ Fr)) (hd : DiskOk Im d cnt) {n : Int} (h0 : 0 ≤ n) (h1 : n < cnt)
    (hR : ∀ c, R (.returned (.slice (some ⟨d.pb, n.toNat * 512, none⟩) 512 c)) w) : Calls Try.prog 31 #[.pointer (some ⟨d.db, 0, none⟩), .int .i64 n] w R := by
  have hlen := hd.len
  have hhi := hd.hi
  apply vc31
  unfold Vc31
  refine ⟨_, _, rfl, _, _, _, h.cell 0 rfl _, ?_⟩
  intro r6 e6 r7 e7 r8 e8
  rw [wrap_id (by omega) (by omega)] at e6 e7
  rw [e7, wrap_id (by omega) (by omega)] at e8
  refine ⟨by omega, by omega, by omega, fun a9 e9 => ?_⟩
  have e : subA (some ⟨d.pb, 0, none⟩) 1 d.plb.length r6.toNat = some ⟨d.pb, n.toNat * 512, none⟩ := by
    unfold subA
    rw [if_neg (by omega)]
    simp only [Option.map_some, Nat.mul_one, add_z]
    congr 2; omega
  rw [e9, e, show r8.toNat - r6.toNat = 512 by omega]
  exact hR _

theorem hkInt : KeyLaw (encI .i64) Try.prog 3 := keyLaw_int Try.underlying3

/-- (*Disk).Read -/
theorem s19 (h : Own w0 Im w (d.L ++ Fr)) (hd : DiskOk Im d cnt) {n : Int}
    (hR0 : ¬ (0 ≤ n ∧ n < cnt) → R (.returned (.tuple #[.slice none 0 0, .int .i64 20])) w)
    (hR : 0 ≤ n → n < cnt → ∀ Im' w' r a' c', Im.le Im' → Own w0 Im' w' (({ d with reads := r } : DiskG).L ++ Fr) → BytesIn Im' a' 512 (d.D n) → R (.returned (.tuple #[.slice a' 512 c', .int .i64 0])) w') :
    Calls Try.prog 19 #[.pointer (some ⟨d.db, 0, none⟩), .int .i64 n] w R := by
  apply vc19
  unfold Vc19
  refine ⟨fun e => (by cases e), fun _ => s33 h hd ⟨_, rfl, fun e => ?_, fun e => ?_⟩⟩
  · have hn : 0 ≤ n ∧ n < cnt := by simpa using e
    refine ⟨_, _, rfl, _, h.cell 0 rfl _, fun r9 _ => ⟨?_, h.frozen 0 rfl _, fun w10 e10 => ?_⟩⟩
    · rw [h.cell 0 rfl _]; rfl
    have h10 : Own w0 Im w10 (({ d with reads := r9 } : DiskG).L ++ Fr) := by rw [e10]; exact h.set 0 rfl _ _
    refine ⟨_, h10.cell 0 rfl _, ?_⟩
    have hlk := run_lookup (P := Try.prog) (t := 48) (K := 3) (E := 33) (enc := encI .i64) Try.underlying48 hkInt (w := w10) (b := d.mb) (M := d.M) (clk := d.clk) (h10.get 2 rfl) n true (z := .slice none 0 0) Try.type33 rfl
    rw [hd.map n] at hlk
    cases hw : lastW d.S n with
    | some p =>
      rw [hw] at hlk
      refine ⟨_, _, _, _, hlk, fun _ => ?_, fun e => (by cases e)⟩
      have hp := hd.ws p (lastW_mem hw).1
      obtain ⟨b, o, ea, hc⟩ := hp.2.2.cells h10
      rw [ea]
      refine s23 h10 hc hp.2.2.1.symm (by omega) (by omega) fun Im' w' a' c' hle ho hb => ⟨_, _, _, rfl, hR hn.1 hn.2 Im' w' r9 a' c' hle ho ?_⟩
      unfold DiskG.D; rw [hw]; exact hb
    | none =>
      rw [hw] at hlk
      refine ⟨_, _, _, _, hlk, fun e => (by cases e), fun _ => ?_⟩
      refine s31 h10 (d := { d with reads := r9 }) (cnt := cnt) ⟨hd.len, hd.lo, hd.hi, hd.vec, hd.ws, hd.nd, hd.map⟩ hn.1 hn.2 fun c => ⟨_, _, _, rfl, ?_⟩
      have hDl : ((d.plb.drop (n.toNat * 512)).take 512).length = 512 := by
        have := hd.D_len hn.1 hn.2
        unfold DiskG.D at this; rw [hw] at this; exact this
      refine s23 h10 (bs := (d.plb.drop (n.toNat * 512)).take 512) ?_ hDl (by omega) (by omega) fun Im' w' a' c' hle ho hb => ⟨_, _, _, rfl, hR hn.1 hn.2 Im' w' r9 a' c' hle ho ?_⟩
      · intro j v hj
        rw [add_none, h10.cell 1 rfl _]
        simp only [u8s, List.getElem?_map, List.getElem?_take, List.getElem?_drop] at hj
        split at hj
        · simpa [u8s] using hj
        · cases hj
      · unfold DiskG.D; rw [hw]; exact hb
  · have hn : ¬ (0 ≤ n ∧ n < cnt) := by simpa using e
    exact hR0 hn
end
end Go.Proofs.Ytgkcckghmlccnaa
