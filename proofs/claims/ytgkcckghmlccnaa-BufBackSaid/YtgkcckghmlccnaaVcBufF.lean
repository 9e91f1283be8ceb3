/- A part of the proof: lemmas. -/
import Derived.Test.YtgkcckghmlccnaaVcBufE
namespace Go.Proofs.Ytgkcckghmlccnaa
open Go Go.Vc
set_option maxRecDepth 100000
set_option linter.unusedVariables false

structure CI (Im : Mem) (c : CacheG) (d : DiskG) (cnt : Nat) (room : Int) : Prop where
  dk : DiskOk Im d cnt
  ok : CacheOk Im c
  good : Good c
  db : c.db = d.db
  rm : c.room = room
  hi : room ≤ 1024
  len : (c.ns.length : Int) ≤ room
  rng : ∀ r ∈ c.recs, 0 ≤ r.n ∧ r.n < cnt
  clean : ∀ r ∈ c.recs, r.dirty = false → r.bs = d.D r.n
/-- What is read at a number. -/
def val (c : CacheG) (d : DiskG) (n : Int) : List Int := match c.look n with | some r => r.bs | none => d.D n
def dty (c : CacheG) (n : Int) : Prop := ∃ r ∈ c.recs, r.n = n ∧ r.dirty = true

theorem filter_len {l : List Int} (hn : l.Nodup) {n : Int} (h : n ∈ l) : (l.filter fun k => !decide (k = n)).length + 1 = l.length := by
  obtain ⟨i, hi, rfl⟩ := List.mem_iff_getElem.1 h
  have e := eraseIdx_eq_filter hn hi
  have e2 : (l.filter fun k => !decide (k = l[i])) = l.filter fun k => decide (k ≠ l[i]) := by congr 1; funext k; simp
  rw [e2, ← e, List.length_eraseIdx, if_pos hi]; omega
theorem filter_out {l : List Int} {n : Int} (h : n ∉ l) : (l.filter fun k => !decide (k = n)) = l := List.filter_eq_self.2 fun k hk => by
  simp only [Bool.not_eq_true', decide_eq_false_iff_not]
  exact fun e => h (e ▸ hk)
theorem nodup_last {l : List Int} (hn : l.Nodup) (n : Int) : ((l.filter fun k => !decide (k = n)) ++ [n]).Nodup := by
  refine List.nodup_append.2 ⟨List.filter_sublist.nodup hn, by simp, fun x hx y hy => ?_⟩
  simp only [List.mem_singleton] at hy
  simp only [List.mem_filter, Bool.not_eq_true', decide_eq_false_iff_not] at hx
  exact fun e => hx.2 (e.trans hy)
theorem mem_last {l : List Int} {n m : Int} : m ∈ (l.filter fun k => !decide (k = n)) ++ [n] ↔ m = n ∨ m ∈ l := by
  simp only [List.mem_append, List.mem_filter, Bool.not_eq_true', decide_eq_false_iff_not, List.mem_singleton]
  constructor
  · rintro (h | h)
    · exact .inr h.1
    · exact .inl h
  · rintro (h | h)
    · exact .inr h
    · by_cases e : m = n
      · exact .inr e
      · exact .inl ⟨h, e⟩
theorem c_perm (c : CacheG) (A Fr : List (Nat × Obj)) : (c.L (A ++ Fr)).Perm (A ++ c.L Fr) := by
  have e : ∀ X, c.L X = ((c.cb, .cells c.cells 56 (0, 0)) :: (c.mb, mapObj (encI .i64) c.M c.clk) :: (vecL 3 c.ord ++ c.recs.map Rec.obj)) ++ X := fun X => by
    unfold CacheG.L; simp
  rw [e, e]
  exact perm_l _ A Fr
theorem D_reads (d : DiskG) (r : Int) (n : Int) : ({ d with reads := r } : DiskG).D n = d.D n := rfl
theorem DiskOk.reads {Im : Mem} {d : DiskG} {cnt : Nat} (h : DiskOk Im d cnt) (r : Int) : DiskOk Im { d with reads := r } cnt := ⟨h.len, h.lo, h.hi, h.vec, h.ws, h.nd, h.map⟩
theorem val_evict {Im : Mem} {c c' : CacheG} {d : DiskG} {cnt : Nat} {room : Int} (h : CI Im c d cnt room) (hc' : (c'.recs.map (·.n)).Nodup) (he : Evict c c') (m : Int) : val c' d m = val c d m := by
  unfold val
  cases h1 : c'.look m with
  | some r =>
    have hr := look_mem h1
    have := look_of_mem h.ok.rn (he.sub r hr.1)
    rw [hr.2] at this
    rw [this]
  | none =>
    cases h2 : c.look m with
    | none => rfl
    | some r =>
      have hr := look_mem h2
      cases hd : r.dirty with
      | true =>
        have := look_of_mem hc' (he.dirty r hr.1 hd)
        rw [hr.2, h1] at this; cases this
      | false => rw [← hr.2]; exact (h.clean r hr.1 hd).symm
theorem dty_evict {c c' : CacheG} (he : Evict c c') (m : Int) : dty c' m ↔ dty c m :=
  ⟨fun ⟨r, hr, h⟩ => ⟨r, he.sub r hr, h⟩, fun ⟨r, hr, h1, h2⟩ => ⟨r, he.dirty r hr h2, h1, h2⟩⟩

section
variable {w0 w : World} {Im : Mem} {Fr L : List (Nat × Obj)} {c : CacheG} {d : DiskG} {cnt : Nat} {room : Int} {R : Ending → World → Prop}

/-- The same is read, the same are dirty. -/
structure Same (Im Im' : Mem) (c c' : CacheG) (d d' : DiskG) (cnt : Nat) (room : Int) : Prop where
  le : Im.le Im'
  ci : CI Im' c' d' cnt room
  cb : c'.cb = c.cb
  db : d'.db = d.db
  S : d'.S = d.S
  plb : d'.plb = d.plb
  val : ∀ n, val c' d' n = val c d n
  dty : ∀ n, dty c' n ↔ dty c n

theorem Same.rfl' (h : CI Im c d cnt room) : Same Im Im c c d d cnt room := ⟨Mem.le_refl _, h, rfl, rfl, rfl, rfl, fun _ => rfl, fun _ => Iff.rfl⟩

/-- (*Cache).Read -/
theorem s9 (h : Own w0 Im w (c.L (d.L ++ Fr))) (hi : CI Im c d cnt room) {n : Int}
    (h20 : ¬ (0 ≤ n ∧ n < cnt) → ∀ w', Own w0 Im w' (c.L (d.L ++ Fr)) → R (.returned (.tuple #[.slice none 0 0, .int .i64 20])) w')
    (h150 : 0 ≤ n → n < cnt → ¬ (c.ns.length : Int) < room → n ∉ c.ns → ∀ w', Own w0 Im w' (c.L (d.L ++ Fr)) → R (.returned (.tuple #[.slice none 0 0, .int .i64 150])) w')
    (hok : 0 ≤ n → n < cnt → ∀ Im' w' c' d' a k, Own w0 Im' w' (c'.L (d'.L ++ Fr)) → Same Im Im' c c' d d' cnt room → (n ∈ c'.ns ∧ ∀ m ∈ c'.ns, m = n ∨ m ∈ c.ns) → BytesIn Im' a 512 (val c d n) → R (.returned (.tuple #[.slice a 512 k, .int .i64 0])) w') :
    Calls Try.prog 9 #[.pointer (some ⟨c.cb, 0, none⟩), .int .i64 n] w R := by
  obtain ⟨hdk, hco, hg, hdb, hrm, hhi, hlen, hrng, hcl⟩ := hi
  have hci : CI Im c d cnt room := ⟨hdk, hco, hg, hdb, hrm, hhi, hlen, hrng, hcl⟩
  apply vc9
  unfold Vc9
  have hlk := (run_look (c := c) h (by simp [CacheG.L]) hco n).1
  refine s21 h ⟨_, rfl, fun _ => ⟨_, _, rfl, _, h.cell 0 rfl _, _, _, hlk, fun hs => ?_, fun hs => ?_⟩, fun e => (by cases e)⟩
  · -- it is kept
    obtain ⟨r, hr⟩ := Option.isSome_iff_exists.1 hs
    have hrm2 := look_mem hr
    have hnn : n ∈ c.ns := (hg n).2 (hrm2.2 ▸ List.mem_map_of_mem hrm2.1)
    have hrr := hrng r hrm2.1
    refine ⟨_, h.cell 0 rfl _, fun r12 _ => ⟨by rw [h.cell 0 rfl _]; rfl, h.frozen 0 rfl _, fun w13 e13 => ?_⟩⟩
    have h13 := h.set 0 rfl (0 + 4) (.int .i64 r12)
    rw [← e13] at h13
    have h13' : Own w0 Im w13 (({ c with hits := r12 } : CacheG).L (d.L ++ Fr)) := h13
    refine s22 (c := { c with hits := r12 }) h13' hco.vec hco.small fun w14 o' h14 hv14 => ⟨rfl, ?_⟩
    rw [hr]
    have hrec := Own.cellm h14 (b := r.blk) (cs := #[.slice r.a 512 r.c, .bool r.dirty]) (T := 62) (z := (0, 0)) (by
      have := rec_mem (c := { c with hits := r12, ord := o', ns := (c.ns.filter fun k => !decide (k = n)) ++ [n] }) hrm2.1 (A := vecL 3 o') (B := d.L ++ Fr)
      exact List.mem_cons_of_mem _ (List.mem_cons_of_mem _ this)) 0
    refine ⟨_, _, rfl, _, _, _, hrec, ?_⟩
    obtain ⟨b, o, ea, hc⟩ := (hco.bytes r hrm2.1).cells h14
    rw [ea]
    refine s23 h14 hc (hco.bytes r hrm2.1).1.symm (by omega) (by omega) fun Im' w' a' k hle ho hb => ⟨_, _, _, rfl, ?_⟩
    have hfl := filter_len hco.nn hnn
    have hval : val c d n = r.bs := by unfold val; rw [hr]
    refine hok (by rw [← hrm2.2]; exact hrr.1) (by rw [← hrm2.2]; exact hrr.2) Im' w' { c with hits := r12, ord := o', ns := (c.ns.filter fun k => !decide (k = n)) ++ [n] } d a' k ho ?_ ⟨by simp, fun m hm => mem_last.1 hm⟩ (by rw [hval]; exact hb)
    refine ⟨hle, ⟨hdk.mono hle, ⟨hv14, hco.nd, hco.map, fun r hr => (hco.bytes r hr).mono hle, hco.rn, nodup_last hco.nn n, ?_⟩, fun m => ?_, hdb, hrm, hhi, ?_, hrng, hcl⟩, rfl, rfl, rfl, rfl, fun _ => rfl, fun _ => Iff.rfl⟩
    · show ((c.ns.filter fun k => !decide (k = n)) ++ [n]).length ≤ 2048
      have := hco.small
      simp only [List.length_append, List.length_cons, List.length_nil]; omega
    · show m ∈ (c.ns.filter fun k => !decide (k = n)) ++ [n] ↔ m ∈ c.recs.map (·.n)
      rw [mem_last, ← hg m]
      constructor
      · rintro (rfl | h)
        · exact hnn
        · exact h
      · exact .inr
    · show ((((c.ns.filter fun k => !decide (k = n)) ++ [n]).length : Nat) : Int) ≤ room
      simp only [List.length_append, List.length_cons, List.length_nil]; omega
  · -- it is not
    have hnone : c.look n = none := by cases e : c.look n with | none => rfl | some r => rw [e] at hs; cases hs
    have hnn : n ∉ c.ns := fun e => look_none.1 hnone ((hg n).1 e)
    refine ⟨fun hneg => h20 (by omega) w h, fun hpos => ⟨_, h.cell 0 rfl _, ?_⟩⟩
    have hd0 := h.perm (c_perm c d.L Fr)
    rw [hdb]
    refine s24 hd0 hdk ⟨_, rfl, fun hge => h20 (by omega) w h, fun hlt => ?_⟩
    have hn0 : 0 ≤ n := by omega
    have hn1 : n < cnt := by omega
    refine s25 h hco hg (by rw [hrm]; exact hlen) (fun w27 c1 h27 hco1 hg1 hev hlen1 => ⟨_, rfl, fun _ => ?_, fun e => (by cases e)⟩) (fun hfu w27 h27 => ⟨_, rfl, fun e => (by cases e), fun _ => h150 hn0 hn1 (by rw [← hrm]; exact hfu) hnn w27 h27⟩)
    refine ⟨_, by rw [← hev.cb]; exact h27.cell 0 rfl _, ?_⟩
    have hdb1 : c1.db = d.db := hev.db.trans hdb
    rw [hdb1]
    refine s19 (h27.perm (c_perm c1 d.L Fr)) hdk (fun e => absurd ⟨hn0, hn1⟩ e) fun _ _ Im1 w32 r a1 k1 hle1 h32 hb1 => ⟨_, _, _, _, rfl, fun e => absurd rfl e, fun _ => ?_⟩
    have h32' : Own w0 Im1 w32 (c1.L (({ d with reads := r } : DiskG).L ++ Fr)) := h32.perm (c_perm c1 _ Fr).symm
    rw [← hev.cb]
    refine ⟨_, h32'.cell 0 rfl _, fun r35 _ => ⟨by rw [h32'.cell 0 rfl _]; rfl, h32'.frozen 0 rfl _, fun w36 e36 => ?_⟩⟩
    have h36 := (h32'.set 0 rfl (0 + 4 + 1) (.int .i64 r35)).drew
    rw [← e36] at h36
    refine ⟨_, h36.cell 0 rfl _, ?_⟩
    obtain ⟨b, o, ea, hc⟩ := hb1.cells h36
    rw [ea]
    refine s23 h36 hc hb1.1.symm (by omega) (by omega) fun Im2 w39 a2 k2 hle2 h39 hb2 => ⟨_, _, _, rfl, h39.cell 0 rfl _, fun b40 w41 e40 e41 => ?_⟩
    have h41 := h39.alloc' e40 e41
    refine ⟨h41.cell 1 rfl _, ?_⟩
    have hup := run_mapUpdate (P := Try.prog) (t := 52) (K := 3) (E := 57) (enc := encI .i64) Try.underlying52 hkInt (w := w41) (b := c1.mb) (M := c1.M) (clk := c1.clk) hco1.nd (h41.get 2 rfl) n (.pointer (some ⟨b40, 0, none⟩))
    refine ⟨_, hup, ?_⟩
    have h42 := h41.setObj 2 rfl (o' := mapObj (encI .i64) (aput c1.M c1.clk n (.pointer (some ⟨b40, 0, none⟩))).1 (aput c1.M c1.clk n (.pointer (some ⟨b40, 0, none⟩))).2)
    have hle12 := Mem.le_trans hle1 hle2
    let c3 : CacheG := { c1 with misses := r35, M := (aput c1.M c1.clk n (.pointer (some ⟨b40, 0, none⟩))).1, clk := (aput c1.M c1.clk n (.pointer (some ⟨b40, 0, none⟩))).2, recs := ⟨n, b40, a2, k2, d.D n, false⟩ :: c1.recs }
    have h42' : Own w0 Im2 _ (c3.L (({ d with reads := r } : DiskG).L ++ Fr)) := h42.perm (List.perm_middle (l₁ := (c1.cb, Obj.cells c3.cells 56 (0, 0)) :: (c1.mb, mapObj (encI .i64) c3.M c3.clk) :: vecL 3 c1.ord)).symm
    refine s22 (c := c3) h42' hco1.vec hco1.small fun w43 o' h43 hv43 => ⟨rfl, ?_⟩
    have hnn1 : n ∉ c1.ns := fun e => hnn (hev.nsub n e)
    have hfo := filter_out hnn1
    have hvalE := val_evict hci hco1.rn hev
    have hnr : n ∉ c1.recs.map (·.n) := fun e => hnn1 ((hg1 n).2 e)
    have hlook : ∀ m, ({ c3 with ord := o', ns := (c3.ns.filter fun k => !decide (k = n)) ++ [n] } : CacheG).look m = if m = n then some ⟨n, b40, a2, k2, d.D n, false⟩ else c1.look m := by
      intro m
      show ((⟨n, b40, a2, k2, d.D n, false⟩ : Rec) :: c1.recs).find? (fun r => decide (r.n = m)) = _
      rw [List.find?_cons]
      by_cases e : m = n
      · simp [e]
      · have : decide (n = m) = false := by simpa using fun h : n = m => e h.symm
        simp only [this]; rw [if_neg e]; rfl
    have hvn : val c d n = d.D n := by unfold val; rw [hnone]
    rw [← ea]
    refine hok hn0 hn1 Im2 w43 { c3 with ord := o', ns := (c3.ns.filter fun k => !decide (k = n)) ++ [n] } { d with reads := r } a1 k1 h43 ?_ ⟨by simp, fun m hm => (mem_last.1 hm).imp id (hev.nsub m)⟩ (by rw [hvn]; exact hb1.mono hle2)
    have hns : (c3.ns.filter fun k => !decide (k = n)) = c1.ns := hfo
    refine ⟨hle12, ⟨(hdk.mono hle12).reads r, ⟨hv43, nodup_put hco1.nd, fun m => ?_, fun x hx => ?_, ?_, nodup_last hco1.nn n, ?_⟩, fun m => ?_, hdb1, hev.room.trans hrm, hhi, ?_, fun x hx => ?_, fun x hx hd => ?_⟩, hev.cb, rfl, rfl, rfl, fun m => ?_, fun m => ?_⟩
    · show aget (aput c1.M c1.clk n (.pointer (some ⟨b40, 0, none⟩))).1 m = _
      rw [aget_put, hlook m]
      by_cases e : m = n
      · simp [e]
      · rw [if_neg e, if_neg e]; exact hco1.map m
    · rcases List.mem_cons.1 hx with rfl | hx
      · exact hb2
      · exact (hco.bytes x (hev.sub x hx)).mono hle12
    · show (n :: c1.recs.map (·.n)).Nodup
      exact List.nodup_cons.2 ⟨hnr, hco1.rn⟩
    · show ((c1.ns.filter fun k => !decide (k = n)) ++ [n]).length ≤ 2048
      rw [hfo]; simp only [List.length_append, List.length_cons, List.length_nil]
      rw [hrm] at hlen1; omega
    · show m ∈ (c1.ns.filter fun k => !decide (k = n)) ++ [n] ↔ m ∈ n :: c1.recs.map (·.n)
      rw [mem_last, List.mem_cons, hg1 m]
    · show ((((c1.ns.filter fun k => !decide (k = n)) ++ [n]).length : Nat) : Int) ≤ room
      rw [hfo]; simp only [List.length_append, List.length_cons, List.length_nil]
      rw [hrm] at hlen1; omega
    · rcases List.mem_cons.1 hx with rfl | hx
      · exact ⟨hn0, hn1⟩
      · exact hrng x (hev.sub x hx)
    · rcases List.mem_cons.1 hx with rfl | hx
      · rfl
      · exact hcl x (hev.sub x hx) hd
    · rw [← hvalE m]
      unfold val
      rw [hlook m]
      by_cases e : m = n
      · subst e
        rw [if_pos rfl, look_none.2 hnr]
      · rw [if_neg e]; rfl
    · rw [← dty_evict hev m]
      constructor
      · rintro ⟨x, hx, h1, h2⟩
        rcases List.mem_cons.1 hx with rfl | hx
        · cases h2
        · exact ⟨x, hx, h1, h2⟩
      · rintro ⟨x, hx, h⟩
        exact ⟨x, List.mem_cons_of_mem _ hx, h⟩
end
end Go.Proofs.Ytgkcckghmlccnaa
