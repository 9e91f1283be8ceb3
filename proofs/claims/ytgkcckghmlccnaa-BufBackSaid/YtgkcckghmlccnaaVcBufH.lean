/- A part of the proof: lemmas. -/
import Derived.Test.YtgkcckghmlccnaaVcBufG
namespace Go.Proofs.Ytgkcckghmlccnaa
open Go Go.Vc
set_option maxRecDepth 100000
set_option linter.unusedVariables false
section
variable {w0 w : World} {Im : Mem} {Fr L : List (Nat × Obj)} {c : CacheG} {d : DiskG} {cnt : Nat} {room : Int} {R : Ending → World → Prop}

theorem Evict.refl (c : CacheG) : Evict c c := ⟨rfl, rfl, rfl, fun _ h => h, fun _ h _ => h, fun _ h => h⟩
theorem Evict.trans {a b c : CacheG} (h : Evict a b) (k : Evict b c) : Evict a c :=
  ⟨k.cb.trans h.cb, k.db.trans h.db, k.room.trans h.room, fun r hr => h.sub r (k.sub r hr), fun r hr hd => k.dirty r (h.dirty r hr hd) hd, fun n hn => h.nsub n (k.nsub n hn)⟩
theorem CI.mono {Im' : Mem} (hle : Im.le Im') (h : CI Im c d cnt room) : CI Im' c d cnt room :=
  ⟨h.dk.mono hle, h.ok.mono hle, h.good, h.db, h.rm, h.hi, h.len, h.rng, h.clean⟩

/-- A clean one that goes. -/
theorem ci_drop (hi : CI Im c d cnt room) {n : Int} {r : Rec} (hr : c.look n = some r) (hcl : r.dirty = false) {o' : VecB}
    (hv : VecOk 1 o' (c.ns.filter fun k => !decide (k = n)).length (i64s (c.ns.filter fun k => !decide (k = n)))) :
    CI Im { c with M := adel c.M n, ord := o', ns := c.ns.filter fun k => !decide (k = n), recs := c.recs.filter fun r => decide (r.n ≠ n) } d cnt room ∧
    Evict c { c with M := adel c.M n, ord := o', ns := c.ns.filter fun k => !decide (k = n), recs := c.recs.filter fun r => decide (r.n ≠ n) } := by
  obtain ⟨hdk, hco, hg, hdb, hrm, hhi, hlen, hrng, hc⟩ := hi
  obtain ⟨hrm2, hrn⟩ := look_mem hr
  have hnn : n ∈ c.ns := (hg n).2 (hrn ▸ List.mem_map_of_mem hrm2)
  have hfl := filter_len hco.nn hnn
  have hsm := hco.small
  refine ⟨⟨hdk, ⟨hv, nodup_del hco.nd, fun m => ?_, fun x hx => hco.bytes x (List.mem_filter.1 hx).1, (List.filter_sublist.map _).nodup hco.rn, List.filter_sublist.nodup hco.nn, ?_⟩, fun m => ?_, hdb, hrm, hhi, ?_, fun x hx => hrng x (List.mem_filter.1 hx).1, fun x hx => hc x (List.mem_filter.1 hx).1⟩,
    rfl, rfl, rfl, fun x hx => (List.mem_filter.1 hx).1, fun x hx hd => List.mem_filter.2 ⟨hx, ?_⟩, fun m hm => (List.mem_filter.1 hm).1⟩
  · show aget (adel c.M n) m = ((c.recs.filter fun r => decide (r.n ≠ n)).find? fun r => decide (r.n = m)).map _
    rw [aget_del, look_filter, hco.map m]
    unfold CacheG.look
    by_cases e : m = n <;> simp [e]
  · show (c.ns.filter fun k => !decide (k = n)).length ≤ 2048
    omega
  · show m ∈ (c.ns.filter fun k => !decide (k = n)) ↔ m ∈ (c.recs.filter fun r => decide (r.n ≠ n)).map (·.n)
    simp only [List.mem_filter, Bool.not_eq_true', decide_eq_false_iff_not, decide_eq_true_eq, List.mem_map]
    constructor
    · rintro ⟨h1, h2⟩
      obtain ⟨r, hr, e⟩ := List.mem_map.1 ((hg m).1 h1)
      exact ⟨r, ⟨hr, by rw [e]; exact h2⟩, e⟩
    · rintro ⟨r, ⟨hr, h2⟩, e⟩
      exact ⟨(hg m).2 (e ▸ List.mem_map_of_mem hr), by rw [← e]; exact h2⟩
  · show ((c.ns.filter fun k => !decide (k = n)).length : Int) ≤ room
    omega
  · simp only [decide_eq_true_eq]
    intro e
    have hl := look_of_mem hco.rn hx
    rw [e, hr] at hl
    cases hl
    rw [hcl] at hd; cases hd

/-- (*Cache).Forget -/
theorem s14 (h : Own w0 Im w (c.L (d.L ++ Fr))) (hi : CI Im c d cnt room)
    (hok : ∀ Im' w' c' r, Im.le Im' → Own w0 Im' w' (c'.L (d.L ++ Fr)) → CI Im' c' d cnt room → Evict c c' → R (.returned (.int .i64 r)) w') :
    Calls Try.prog 14 #[.pointer (some ⟨c.cb, 0, none⟩)] w R := by
  apply vc14
  unfold Vc14
  have hsm := hi.ok.small
  refine s16 h hi.ok fun Im1 w3 a1 k1 hle1 h3 hints => ⟨_, _, _, rfl,
    fun m v w' => ∃ Im' c' k, m = c.ns.length - k ∧ v = (k : Nat) ∧ k ≤ c.ns.length ∧ Im1.le Im' ∧ Own w0 Im' w' (c'.L (d.L ++ Fr)) ∧ CI Im' c' d cnt room ∧ Evict c c' ∧ (∀ j (hj : j < c.ns.length), k ≤ j → c.ns[j] ∈ c'.ns),
    ⟨_, Im1, c, 0, rfl, rfl, by omega, Mem.le_refl _, h3, hi.mono hle1, Evict.refl c, fun j hj _ => List.getElem_mem hj⟩, ?_⟩
  rintro m v w7 ⟨Im', c', k, rfl, rfl, hk, hle, h7, hi7, hev, hin⟩
  refine ⟨fun hlt => ?_, fun hge => ?_⟩
  · have hk' : k < c.ns.length := by omega
    have hmem := hin k hk' (Nat.le_refl k)
    obtain ⟨b8, o9, ea, hcell⟩ := (hints.mono hle).cell h7 (k := k) (v := c.ns[k]) (by simp [hk'])
    obtain ⟨r, hr⟩ := hi7.good.rec hmem
    obtain ⟨hrm, hrn⟩ := look_mem hr
    have hlk := (run_look (c := c') h7 (by simp [CacheG.L]) hi7.ok c.ns[k]).2
    rw [hr] at hlk
    have et : ((k : Nat) : Int).toNat = k := by omega
    have hcb := hev.cb
    refine ⟨_, _, ea, by omega, hlt, _, by rw [et]; exact hcell, _, _, rfl, _, by rw [← hcb]; exact h7.cell 0 rfl _, _, hlk, _, _, rfl, _, Own.cellm h7 (b := r.blk) (cs := #[.slice r.a 512 r.c, .bool r.dirty]) (T := 62) (z := (0, 0)) (List.mem_cons_of_mem _ (List.mem_cons_of_mem _ (rec_mem hrm))) (0 + 1), fun hd r18 e18 => ?_, fun hd => ?_⟩
    · rw [wrap_id (by omega) (by omega)] at e18
      exact ⟨_, by omega, Im', c', k + 1, rfl, by omega, by omega, hle, h7, hi7, hev, fun j hj hkj => hin j hj (by omega)⟩
    · have hdel := run_delete (P := Try.prog) (t := 52) (K := 3) (E := 57) (enc := encI .i64) Try.underlying52 hkInt (b := c'.mb) (M := c'.M) (clk := c'.clk) hi7.ok.nd (h7.get 1 rfl) c.ns[k] 3 0
      have h21 := h7.setObj 1 rfl (o' := mapObj (encI .i64) (adel c'.M c.ns[k]) c'.clk)
      refine ⟨_, by rw [← hcb]; exact h7.cell 0 rfl _, _, hdel, ?_⟩
      rw [← hcb]
      have h21' : Own w0 Im' { w7 with heap := w7.heap.setIfInBounds c'.mb (mapObj (encI .i64) (adel c'.M c.ns[k]) c'.clk) } (({ c' with M := adel c'.M c.ns[k] } : CacheG).L (d.L ++ Fr)) := h21
      refine s27 (c := { c' with M := adel c'.M c.ns[k] }) h21' hi7.ok.vec hi7.ok.small fun w22 o' h22 hv => ⟨rfl, fun r24 e24 => ?_⟩
      rw [wrap_id (by omega) (by omega)] at e24
      obtain ⟨hci, hev2⟩ := ci_drop hi7 hr hd hv
      refine ⟨_, by omega, Im', _, k + 1, rfl, by omega, by omega, hle, ?_, hci, hev.trans hev2, fun j hj hkj => ?_⟩
      · refine h22.sub ?_
        exact List.Sublist.cons_cons _ (List.Sublist.cons_cons _ ((List.Sublist.refl (vecL 3 o')).append ((List.filter_sublist.map Rec.obj).append (List.Sublist.refl _))))
      · refine List.mem_filter.2 ⟨hin j hj (by omega), ?_⟩
        simp only [Bool.not_eq_true', decide_eq_false_iff_not]
        intro e
        have := nodup_inj hi.ok.nn hj hk' e
        omega
  · rw [← hev.cb]
    refine s16 h7 hi7.ok fun Im2 w27 a2 k2 hle2 h27 _ => ⟨_, _, _, rfl, fun r29 _ => ?_⟩
    exact hok Im2 w27 c' r29 (Mem.le_trans hle1 (Mem.le_trans hle hle2)) h27 (hi7.mono hle2) hev
end
end Go.Proofs.Ytgkcckghmlccnaa
