/- A part of the proof: lemmas. -/
import Derived.Test.YtgkcckghmlccnaaVcBufF
namespace Go.Proofs.Ytgkcckghmlccnaa
open Go Go.Vc
set_option maxRecDepth 100000
set_option linter.unusedVariables false
section
variable {w0 w : World} {Im : Mem} {Fr L : List (Nat × Obj)} {c : CacheG} {d : DiskG} {cnt : Nat} {room : Int} {R : Ending → World → Prop}

/-- buf.New -/
theorem s8 (h : Own w0 Im w (d.L ++ Fr)) (hd : DiskOk Im d cnt) {rm : Int}
    (hno : ¬ (1 ≤ rm ∧ rm ≤ 1024) → R (.returned (.tuple #[.pointer none, .int .i64 1])) w)
    (hok : 1 ≤ rm → rm ≤ 1024 → ∀ w' c, c.ns = [] → Own w0 Im w' (c.L (d.L ++ Fr)) → CI Im c d cnt rm → (∀ n, val c d n = d.D n) → (∀ n, ¬ dty c n) → R (.returned (.tuple #[.pointer (some ⟨c.cb, 0, none⟩), .int .i64 0])) w') :
    Calls Try.prog 8 #[.pointer (some ⟨d.db, 0, none⟩), .int .i64 rm] w R := by
  apply vc8
  unfold Vc8
  refine ⟨fun e => (by cases e), fun _ => ⟨fun e => hno (by omega), fun h1 => ⟨fun e => hno (by omega), fun h2 b3 w4 e3 e4 b5 w6 e5 e6 => ?_⟩⟩⟩
  have h4 := h.alloc' e3 e4
  have h6 := h4.alloc' e5 e6
  refine hok (by omega) (by omega) w6 { cb := b5, db := d.db, room := rm, mb := b3, M := [], clk := 0, ord := none, ns := [], recs := [], hits := 0, misses := 0, ev := 0, wr := 0 } rfl h6 ?_ (fun _ => rfl) (fun n ⟨r, hr, _⟩ => by cases hr)
  exact ⟨hd, ⟨VecOk.nil, List.nodup_nil, fun _ => rfl, fun r hr => absurd hr List.not_mem_nil, List.nodup_nil, List.nodup_nil, by simp⟩, fun n => by simp, rfl, rfl, by omega, by simp; omega, fun r hr => absurd hr List.not_mem_nil, fun r hr => absurd hr List.not_mem_nil⟩

/-- (*Cache).Write -/
theorem s11 (h : Own w0 Im w (c.L (d.L ++ Fr))) (hi : CI Im c d cnt room) {n : Int} {a : Option Addr} {k : Nat} {bs : List Int} (hb : BytesIn Im a 512 bs)
    (h20 : ¬ (0 ≤ n ∧ n < cnt) → ∀ w', Own w0 Im w' (c.L (d.L ++ Fr)) → R (.returned (.int .i64 20)) w')
    (h150 : 0 ≤ n → n < cnt → ¬ (c.ns.length : Int) < room → n ∉ c.ns → ∀ w', Own w0 Im w' (c.L (d.L ++ Fr)) → R (.returned (.int .i64 150)) w')
    (hok : 0 ≤ n → n < cnt → ∀ Im' w' c', Im.le Im' → Own w0 Im' w' (c'.L (d.L ++ Fr)) → CI Im' c' d cnt room → c'.cb = c.cb → (n ∈ c'.ns ∧ ∀ m ∈ c'.ns, m = n ∨ m ∈ c.ns) → (∀ m, val c' d m = if m = n then bs else val c d m) → (∀ m, dty c' m ↔ m = n ∨ dty c m) → R (.returned (.int .i64 0)) w') :
    Calls Try.prog 11 #[.pointer (some ⟨c.cb, 0, none⟩), .int .i64 n, .slice a 512 k] w R := by
  obtain ⟨hdk, hco, hg, hdb, hrm, hhi, hlen, hrng, hcl⟩ := hi
  have hci : CI Im c d cnt room := ⟨hdk, hco, hg, hdb, hrm, hhi, hlen, hrng, hcl⟩
  apply vc11
  unfold Vc11
  have hlk := (run_look (c := c) h (by simp [CacheG.L]) hco n).1
  refine s21 h ⟨_, rfl, fun _ => ⟨fun e => absurd rfl e, fun _ => ⟨fun e => h20 (by omega) w h, fun hpos => ⟨_, _, rfl, _, h.cell 0 rfl _, ?_⟩⟩⟩, fun e => (by cases e)⟩
  rw [hdb]
  refine s24 (h.perm (c_perm c d.L Fr)) hdk ⟨_, rfl, fun e => h20 (by omega) w h, fun hlt => ?_⟩
  have hn0 : 0 ≤ n := by omega
  have hn1 : n < cnt := by omega
  refine ⟨fun w13 => ∃ c1, Own w0 Im w13 (c1.L (d.L ++ Fr)) ∧ CacheOk Im c1 ∧ Good c1 ∧ Evict c c1 ∧ (n ∈ c1.ns ∨ (n ∉ c1.ns ∧ (c1.ns.length : Int) < room)) ∧ (c1.ns.length : Int) ≤ room, ?_, _, h.cell 0 rfl _, _, _, hlk, fun hs => ?_, fun hs => ?_⟩
  · rintro w13 ⟨c1, h13, hco1, hg1, hev, hroom, hlen1⟩
    have h13 := h13.drew
    refine ⟨_, by rw [← hev.cb]; exact h13.cell 0 rfl _, ?_⟩
    obtain ⟨b, o, ea, hc⟩ := hb.cells h13
    rw [ea]
    refine s23 h13 hc hb.1.symm (by omega) (by omega) fun Im2 w16 a2 k2 hle h16 hb2 => ⟨_, _, _, rfl, by rw [← hev.cb]; exact h16.cell 0 rfl _, fun b17 w18 e17 e18 => ?_⟩
    have h18 := h16.alloc' e17 e18
    refine ⟨by rw [← hev.cb]; exact h18.cell 1 rfl _, ?_⟩
    have hup := run_mapUpdate (P := Try.prog) (t := 52) (K := 3) (E := 57) (enc := encI .i64) Try.underlying52 hkInt (w := w18) (b := c1.mb) (M := c1.M) (clk := c1.clk) hco1.nd (h18.get 2 rfl) n (.pointer (some ⟨b17, 0, none⟩))
    refine ⟨_, hup, ?_⟩
    have h19 := h18.setObj 2 rfl (o' := mapObj (encI .i64) (aput c1.M c1.clk n (.pointer (some ⟨b17, 0, none⟩))).1 (aput c1.M c1.clk n (.pointer (some ⟨b17, 0, none⟩))).2)
    let c3 : CacheG := { c1 with M := (aput c1.M c1.clk n (.pointer (some ⟨b17, 0, none⟩))).1, clk := (aput c1.M c1.clk n (.pointer (some ⟨b17, 0, none⟩))).2, recs := ⟨n, b17, a2, k2, bs, true⟩ :: c1.recs.filter fun r => decide (r.n ≠ n) }
    have h19' : Own w0 Im2 { w18 with heap := w18.heap.setIfInBounds c1.mb (mapObj (encI .i64) c3.M c3.clk) } (c3.L (d.L ++ Fr)) := by
      have hsub : List.Sublist ((b17, Obj.cells #[.slice a2 512 k2, .bool true] 62 (0, 0)) :: (c1.cb, Obj.cells c1.cells 56 (0, 0)) :: (c1.mb, mapObj (encI .i64) c3.M c3.clk) :: (vecL 3 c1.ord ++ ((c1.recs.filter fun r => decide (r.n ≠ n)).map Rec.obj ++ (d.L ++ Fr))))
          ((b17, Obj.cells #[.slice a2 512 k2, .bool true] 62 (0, 0)) :: (c1.cb, Obj.cells c1.cells 56 (0, 0)) :: (c1.mb, mapObj (encI .i64) c3.M c3.clk) :: (vecL 3 c1.ord ++ (c1.recs.map Rec.obj ++ (d.L ++ Fr)))) :=
        List.Sublist.cons_cons _ (List.Sublist.cons_cons _ (List.Sublist.cons_cons _ ((List.Sublist.refl _).append ((List.filter_sublist.map Rec.obj).append (List.Sublist.refl _)))))
      exact (h19.sub hsub).perm (List.perm_middle (l₁ := (c1.cb, Obj.cells c3.cells 56 (0, 0)) :: (c1.mb, mapObj (encI .i64) c3.M c3.clk) :: vecL 3 c1.ord)).symm
    have hcbe : c.cb = c3.cb := hev.cb.symm
    rw [hcbe]
    refine s22 (c := c3) h19' hco1.vec hco1.small fun w20 o' h20' hv20 => ⟨rfl, ?_⟩
    have hlook : ∀ m, ({ c3 with ord := o', ns := (c3.ns.filter fun k => !decide (k = n)) ++ [n] } : CacheG).look m = if m = n then some ⟨n, b17, a2, k2, bs, true⟩ else c1.look m := by
      intro m
      show ((⟨n, b17, a2, k2, bs, true⟩ : Rec) :: c1.recs.filter fun r => decide (r.n ≠ n)).find? (fun r => decide (r.n = m)) = _
      rw [List.find?_cons]
      by_cases e : m = n
      · simp [e]
      · have : decide (n = m) = false := by simpa using fun h : n = m => e h.symm
        simp only [this]; rw [look_filter, if_neg e, if_neg e]; rfl
    have hvalE := val_evict hci hco1.rn hev
    have hnl : ((c1.ns.filter fun k => !decide (k = n)) ++ [n]).length ≤ 1024 ∧ ((((c1.ns.filter fun k => !decide (k = n)) ++ [n]).length : Nat) : Int) ≤ room := by
      rcases hroom with hin | ⟨hout, hlt⟩
      · have := filter_len hco1.nn hin
        simp only [List.length_append, List.length_cons, List.length_nil]; omega
      · rw [filter_out hout]; simp only [List.length_append, List.length_cons, List.length_nil]; omega
    refine hok hn0 hn1 Im2 w20 { c3 with ord := o', ns := (c3.ns.filter fun k => !decide (k = n)) ++ [n] } hle h20' ?_ hev.cb ⟨by simp, fun m hm => (mem_last.1 hm).imp id (hev.nsub m)⟩ (fun m => ?_) (fun m => ?_)
    · refine ⟨hdk.mono hle, ⟨hv20, nodup_put hco1.nd, fun m => ?_, fun x hx => ?_, ?_, nodup_last hco1.nn n, ?_⟩, fun m => ?_, hev.db.trans hdb, hev.room.trans hrm, hhi, hnl.2, fun x hx => ?_, fun x hx hd => ?_⟩
      · show aget (aput c1.M c1.clk n (.pointer (some ⟨b17, 0, none⟩))).1 m = _
        rw [aget_put, hlook m]
        by_cases e : m = n
        · simp [e]
        · rw [if_neg e, if_neg e]; exact hco1.map m
      · rcases List.mem_cons.1 hx with rfl | hx
        · exact hb2
        · exact (hco.bytes x (hev.sub x (List.mem_filter.1 hx).1)).mono hle
      · show (n :: (c1.recs.filter fun r => decide (r.n ≠ n)).map (·.n)).Nodup
        refine List.nodup_cons.2 ⟨fun hm => ?_, (List.filter_sublist.map _).nodup hco1.rn⟩
        obtain ⟨x, hx, e⟩ := List.mem_map.1 hm
        have := (List.mem_filter.1 hx).2
        simp only [decide_eq_true_eq] at this
        exact this e
      · show ((c1.ns.filter fun k => !decide (k = n)) ++ [n]).length ≤ 2048
        omega
      · show m ∈ (c1.ns.filter fun k => !decide (k = n)) ++ [n] ↔ m ∈ n :: (c1.recs.filter fun r => decide (r.n ≠ n)).map (·.n)
        rw [mem_last, List.mem_cons, hg1 m]
        constructor
        · rintro (h | h)
          · exact .inl h
          · by_cases e : m = n
            · exact .inl e
            · obtain ⟨x, hx, e2⟩ := List.mem_map.1 h
              exact .inr (List.mem_map.2 ⟨x, List.mem_filter.2 ⟨hx, by simp only [decide_eq_true_eq]; rw [e2]; exact e⟩, e2⟩)
        · rintro (h | h)
          · exact .inl h
          · obtain ⟨x, hx, e2⟩ := List.mem_map.1 h
            exact .inr (List.mem_map.2 ⟨x, (List.mem_filter.1 hx).1, e2⟩)
      · rcases List.mem_cons.1 hx with rfl | hx
        · exact ⟨hn0, hn1⟩
        · exact hrng x (hev.sub x (List.mem_filter.1 hx).1)
      · rcases List.mem_cons.1 hx with rfl | hx
        · cases hd
        · exact hcl x (hev.sub x (List.mem_filter.1 hx).1) hd
    · rw [← hvalE m]
      unfold val
      rw [hlook m]
      by_cases e : m = n
      · rw [if_pos e, if_pos e]
      · rw [if_neg e, if_neg e]
    · rw [← dty_evict hev m]
      constructor
      · rintro ⟨x, hx, h1, h2⟩
        rcases List.mem_cons.1 hx with rfl | hx
        · exact .inl h1.symm
        · exact .inr ⟨x, (List.mem_filter.1 hx).1, h1, h2⟩
      · rintro (rfl | ⟨x, hx, h1, h2⟩)
        · exact ⟨_, List.mem_cons_self .., rfl, rfl⟩
        · by_cases e : m = n
          · exact ⟨_, List.mem_cons_self .., e.symm, rfl⟩
          · exact ⟨x, List.mem_cons_of_mem _ (List.mem_filter.2 ⟨hx, by simp only [decide_eq_true_eq]; rw [h1]; exact e⟩), h1, h2⟩
  · obtain ⟨r, hr⟩ := Option.isSome_iff_exists.1 hs
    have hrm2 := look_mem hr
    exact ⟨c, h, hco, hg, ⟨rfl, rfl, rfl, fun _ h => h, fun _ h _ => h, fun _ h => h⟩, .inl ((hg n).2 (hrm2.2 ▸ List.mem_map_of_mem hrm2.1)), hlen⟩
  · have hnone : c.look n = none := by cases e : c.look n with | none => rfl | some r => rw [e] at hs; cases hs
    have hnn : n ∉ c.ns := fun e => look_none.1 hnone ((hg n).1 e)
    refine s25 h hco hg (by rw [hrm]; exact hlen) (fun w27 c1 h27 hco1 hg1 hev hlen1 => ⟨_, rfl, fun _ => ?_, fun e => (by cases e)⟩) (fun hfu w27 h27 => ⟨_, rfl, fun e => (by cases e), fun _ => h150 hn0 hn1 (by rw [← hrm]; exact hfu) hnn w27 h27⟩)
    rw [hrm] at hlen1
    exact ⟨c1, h27, hco1, hg1, hev, .inr ⟨fun e => hnn (hev.nsub n e), hlen1⟩, by omega⟩

/-- (*Cache).Back -/
theorem s13 (h : Own w0 Im w (c.L (d.L ++ Fr))) (hi : CI Im c d cnt room) {n : Int} (hS : d.S.length < 4398046511103)
    (hno : ¬ dty c n → ∀ w', Own w0 Im w' (c.L (d.L ++ Fr)) → R (.returned (.tuple #[.bool false, .int .i64 0])) w')
    (hok : dty c n → ∀ Im' w' c' d', Im.le Im' → Own w0 Im' w' (c'.L (d'.L ++ Fr)) → CI Im' c' d' cnt room → c'.cb = c.cb → d'.db = d.db → c'.ns = c.ns → d'.S.length = d.S.length + 1 → (∀ m, val c' d' m = val c d m) → (∀ m, dty c' m ↔ m ≠ n ∧ dty c m) → R (.returned (.tuple #[.bool true, .int .i64 0])) w') :
    Calls Try.prog 13 #[.pointer (some ⟨c.cb, 0, none⟩), .int .i64 n] w R := by
  obtain ⟨hdk, hco, hg, hdb, hrm, hhi, hlen, hrng, hcl⟩ := hi
  apply vc13
  unfold Vc13
  have hlk := (run_look (c := c) h (by simp [CacheG.L]) hco n).1
  refine s21 h ⟨_, rfl, fun _ => ⟨_, _, rfl, _, h.cell 0 rfl _, _, _, hlk, fun hs => ?_, fun hs => ?_⟩, fun e => (by cases e)⟩
  · obtain ⟨r, hr⟩ := Option.isSome_iff_exists.1 hs
    obtain ⟨hrm2, hrn⟩ := look_mem hr
    rw [hr]
    have hmem : ∀ {X}, r.obj ∈ c.L X := fun {X} => List.mem_cons_of_mem _ (List.mem_cons_of_mem _ (rec_mem hrm2))
    have hrec := fun k => Own.cellm h (b := r.blk) (cs := #[.slice r.a 512 r.c, .bool r.dirty]) (T := 62) (z := (0, 0)) hmem k
    refine ⟨_, _, rfl, _, hrec (0 + 1), fun hdt => ?_, fun hdf => ?_⟩
    · have h4 := h.drew
      refine ⟨_, h4.cell 0 rfl _, _, _, _, Own.cellm h4 (b := r.blk) (cs := #[.slice r.a 512 r.c, .bool r.dirty]) (T := 62) (z := (0, 0)) hmem 0, ?_⟩
      rw [hdb]
      have hrr := hrng r hrm2
      rw [hrn] at hrr
      refine s26 (h4.perm (c_perm c d.L Fr)) hdk hrr.1 hrr.2 (hco.bytes r hrm2) hS fun Im' w17 d' hle h17 hd' hdb' hplb ⟨a', k', hS'⟩ => ⟨_, rfl, fun e => absurd rfl e, fun _ => ?_⟩
      have h17' : Own w0 Im' w17 (c.L (d'.L ++ Fr)) := h17.perm (c_perm c d'.L Fr).symm
      -- the record's own block
      obtain ⟨l1, l2, hsplit⟩ := List.append_of_mem hrm2
      have hL : ∀ (c' : CacheG) (x : Rec) X, c'.recs = l1 ++ x :: l2 → (c'.L X).Perm (x.obj :: (c'.cb, .cells c'.cells 56 (0, 0)) :: (c'.mb, mapObj (encI .i64) c'.M c'.clk) :: (vecL 3 c'.ord ++ (l1.map Rec.obj ++ (l2.map Rec.obj ++ X)))) := by
        intro c' x X e
        have e1 : c'.L X = ((c'.cb, .cells c'.cells 56 (0, 0)) :: (c'.mb, mapObj (encI .i64) c'.M c'.clk) :: (vecL 3 c'.ord ++ l1.map Rec.obj)) ++ x.obj :: (l2.map Rec.obj ++ X) := by
          unfold CacheG.L; rw [e]; simp
        rw [e1]
        refine List.perm_middle.trans ?_
        simp
      have h17r := h17'.perm (hL c r _ hsplit)
      refine ⟨by rw [h17r.cell 0 (cs := #[.slice r.a 512 r.c, .bool r.dirty]) rfl _]; rfl, h17r.frozen 0 (cs := #[.slice r.a 512 r.c, .bool r.dirty]) rfl _, fun w18 e18 => ?_⟩
      have h18 := h17r.set 0 (cs := #[.slice r.a 512 r.c, .bool r.dirty]) rfl (0 + 1) (.bool false)
      rw [← e18] at h18
      refine ⟨_, h18.cell 1 rfl _, fun r20 _ => ⟨by rw [h18.cell 1 rfl _]; rfl, h18.frozen 1 rfl _, fun w21 e21 => ?_⟩⟩
      have h21 := h18.set 1 rfl (0 + 4 + 3) (.int .i64 r20)
      rw [← e21] at h21
      let c3 : CacheG := { c with recs := l1 ++ { r with dirty := false } :: l2, wr := r20 }
      have h21' : Own w0 Im' w21 (c3.L (d'.L ++ Fr)) := Own.perm (L := _) h21 (hL c3 { r with dirty := false } (d'.L ++ Fr) rfl).symm
      have hrnE : c3.recs.map (·.n) = c.recs.map (·.n) := by show (l1 ++ { r with dirty := false } :: l2).map (·.n) = _; rw [hsplit]; simp
      have hnd := hco.rn
      have hlook : ∀ m, (c3.look m).map (fun x => (x.blk, x.bs)) = (c.look m).map fun x => (x.blk, x.bs) := by
        intro m
        show ((l1 ++ { r with dirty := false } :: l2).find? fun x => decide (x.n = m)).map _ = (c.recs.find? fun x => decide (x.n = m)).map _
        rw [hsplit, List.find?_append, List.find?_append]
        cases l1.find? (fun x => decide (x.n = m)) with
        | some y => rfl
        | none =>
          simp only [Option.none_or, List.find?_cons]
          cases decide (r.n = m) <;> rfl
      have hne : ∀ x, x ∈ l1 ∨ x ∈ l2 → x.n ≠ n := by
        intro x hx e
        rw [hsplit] at hnd
        simp only [List.map_append, List.map_cons, List.nodup_append, List.nodup_cons] at hnd
        obtain ⟨_, ⟨q2, _⟩, q3⟩ := hnd
        rcases hx with hx | hx
        · exact q3 x.n (List.mem_map_of_mem hx) r.n (List.mem_cons_self ..) (e.trans hrn.symm)
        · exact q2 (by rw [hrn, ← e]; exact List.mem_map_of_mem hx)
      have hD : ∀ m, d'.D m = if m = n then r.bs else d.D m := by
        intro m
        unfold DiskG.D
        rw [hS', lastW_snoc, hplb]
        by_cases e : m = n
        · rw [if_pos e.symm, if_pos e]
        · rw [if_neg (fun h : n = m => e h.symm), if_neg e]
      have hmemc : ∀ x ∈ c3.recs, (x = { r with dirty := false }) ∨ (x ∈ c.recs ∧ x.n ≠ n) := by
        intro x hx
        have hx' : x ∈ l1 ++ { r with dirty := false } :: l2 := hx
        rcases List.mem_append.1 hx' with hx | hx
        · exact .inr ⟨by rw [hsplit]; simp [hx], hne x (.inl hx)⟩
        · rcases List.mem_cons.1 hx with rfl | hx
          · exact .inl rfl
          · exact .inr ⟨by rw [hsplit]; simp [hx], hne x (.inr hx)⟩
      refine hok ⟨r, hrm2, hrn, hdt⟩ Im' w21 c3 d' hle h21' ?_ rfl hdb' rfl (by rw [hS']; simp) (fun m => ?_) (fun m => ?_)
      · refine ⟨hd', ⟨hco.vec, hco.nd, fun m => ?_, fun x hx => ?_, by rw [hrnE]; exact hco.rn, hco.nn, hco.small⟩, fun m => by rw [hrnE]; exact hg m, hdb.trans hdb'.symm, hrm, hhi, hlen, fun x hx => ?_, fun x hx hd2 => ?_⟩
        · have := hco.map m
          show aget c.M m = _
          rw [this]
          have e := hlook m
          cases e1 : c3.look m with
          | none => cases e2 : c.look m with
            | none => rfl
            | some y => rw [e1, e2] at e; cases e
          | some x => cases e2 : c.look m with
            | none => rw [e1, e2] at e; cases e
            | some y =>
              rw [e1, e2] at e
              simp only [Option.map_some, Option.some.injEq, Prod.mk.injEq] at e
              simp [e.1]
        · rcases hmemc x hx with rfl | ⟨hx, _⟩
          · exact (hco.bytes r hrm2).mono hle
          · exact (hco.bytes x hx).mono hle
        · rcases hmemc x hx with rfl | ⟨hx, _⟩
          · exact hrng r hrm2
          · exact hrng x hx
        · rw [hD]
          rcases hmemc x hx with rfl | ⟨hx, hxn⟩
          · rw [if_pos hrn]
          · rw [if_neg hxn]; exact hcl x hx hd2
      · unfold val
        have e := hlook m
        cases e1 : c3.look m with
        | none => cases e2 : c.look m with
          | none =>
            have hmn : m ≠ n := by rintro rfl; rw [hr] at e2; cases e2
            show d'.D m = d.D m
            rw [hD, if_neg hmn]
          | some y => rw [e1, e2] at e; cases e
        | some x => cases e2 : c.look m with
          | none => rw [e1, e2] at e; cases e
          | some y =>
            rw [e1, e2] at e
            simp only [Option.map_some, Option.some.injEq, Prod.mk.injEq] at e
            exact e.2
      · constructor
        · rintro ⟨x, hx, h1, h2⟩
          rcases hmemc x hx with rfl | ⟨hx, hxn⟩
          · cases h2
          · exact ⟨by rw [← h1]; exact hxn, x, hx, h1, h2⟩
        · rintro ⟨hmn, x, hx, h1, h2⟩
          rw [hsplit] at hx
          refine ⟨x, ?_, h1, h2⟩
          show x ∈ l1 ++ { r with dirty := false } :: l2
          rcases List.mem_append.1 hx with hx | hx
          · exact List.mem_append.2 (.inl hx)
          · rcases List.mem_cons.1 hx with rfl | hx
            · exact absurd (h1.symm.trans hrn) hmn
            · exact List.mem_append.2 (.inr (List.mem_cons_of_mem _ hx))
    · refine hno (fun ⟨x, hx, h1, h2⟩ => ?_) w h
      have := look_of_mem hco.rn hx
      rw [h1, hr] at this
      cases this
      rw [hdf] at h2; cases h2
  · refine hno (fun ⟨x, hx, h1, h2⟩ => ?_) w h
    have := look_of_mem hco.rn hx
    rw [h1] at this
    rw [this] at hs; cases hs
end
end Go.Proofs.Ytgkcckghmlccnaa
