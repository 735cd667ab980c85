/- A map keyed by two numbers, entry by entry: look-up, store, delete, and a range in whose round a store at a key that is there is done. Over whatever program has such a map type. Condition: the block is such a map. -/
import Derived.Test.YtlndpljhcempoaaOwnA
import Derived.Maps.RangeWalk
import Derived.WideKeyPair
namespace Go.Proofs.Ytlndpljhcempoaa
open Go.RowKit
open Go.ChangeMaps (setBlock)
open Go.Maps (Keyed)

abbrev entK (s i : Int) : Value := .agg #[.int .i64 s, .int .i64 i]

theorem entK_inj {s i s' i' : Int} (h : entK s i = entK s' i') : s = s' ∧ i = i' := by
  simp only [entK, Value.agg.injEq, Array.mk.injEq, List.cons.injEq, Value.int.injEq] at h
  exact ⟨h.1.2, h.2.1.2⟩

/-- The entries of a map: just the cells that are not nought, each once. -/
structure Ents (es : Array MapEntry) (clock : Nat) (f : Int → Int → Int) : Prop where
  shape : ∀ e ∈ es.toList, ∃ s i : Int, e.key = entK s i ∧ e.val = .int .i64 (f s i) ∧ f s i ≠ 0
  there : ∀ s i, f s i ≠ 0 → ∃ e ∈ es.toList, e.key = entK s i
  keys : es.toList.Pairwise (fun a b => a.key ≠ b.key)
  born : ∀ e ∈ es.toList, e.born < clock
  bnd : (es.toList.map (·.born)).Nodup

/-- Block m is that map. -/
def OmIs (w : World) (m : Nat) (f : Int → Int → Int) : Prop := ∃ es clock, w.heap[m]? = some (.map es clock) ∧ Ents es clock f

/-- A range under way: block r is its iterator; sn: which cells have come; c: how many are to come. -/
def Rgd (w : World) (m r : Nat) (f : Int → Int → Int) (sn : Int → Int → Bool) (c : Nat) : Prop :=
  ∃ es clock seen, w.heap[m]? = some (.map es clock) ∧ Ents es clock f ∧ w.heap[r]? = some (.mapIter (some m) clock seen clock) ∧
    (∀ e ∈ es.toList, ∀ s i, e.key = entK s i → seen.contains e.born = sn s i) ∧ (leftOf es seen).size = c

theorem heap_put_same {w : World} {b : Nat} {x : Obj} (hb : w.heap[b]? = some x) (o : Obj) : (setBlock w b o).heap[b]? = some o := by
  have hlt : b < w.heap.size := (Array.getElem?_eq_some_iff.1 hb).1
  simp [setBlock, hlt]

theorem heap_put_other {w : World} {b : Nat} (o : Obj) {i : Nat} (h : i ≠ b) : (setBlock w b o).heap[i]? = w.heap[i]? := by
  simp only [setBlock]
  rw [Array.getElem?_setIfInBounds_ne (by omega)]

theorem Keeps.put {w : World} {b : Nat} (o : Obj) : Keeps [b] w (setBlock w b o) :=
  ⟨rfl, rfl, rfl, by simp [setBlock], fun k _ hk => heap_put_other o (by simpa using hk)⟩

theorem OmIs.lt {w : World} {m : Nat} {f : Int → Int → Int} (h : OmIs w m f) : m < w.heap.size := by
  obtain ⟨es, clock, hb, _⟩ := h
  exact (Array.getElem?_eq_some_iff.1 hb).1

theorem OmIs.keeps {w w' : World} {m : Nat} {f : Int → Int → Int} {S : List Nat} (h : OmIs w m f) (hk : Keeps S w w') (hm : m ∉ S) : OmIs w' m f := by
  have := h.lt
  obtain ⟨es, clock, hb, E⟩ := h
  exact ⟨es, clock, (hk.block m this hm).trans hb, E⟩

theorem OmIs.new (w : World) : OmIs (w.alloc (.map #[] 0)) w.heap.size (fun _ _ => 0) :=
  ⟨#[], 0, heap_alloc_new w _, fun e he => by simp at he, fun s i h => absurd rfl h, by simp, fun e he => by simp at he, by simp⟩

theorem Rgd.om {w : World} {m r : Nat} {f : Int → Int → Int} {sn : Int → Int → Bool} {c : Nat} (h : Rgd w m r f sn c) : OmIs w m f := by
  obtain ⟨es, clock, seen, hb, E, _⟩ := h
  exact ⟨es, clock, hb, E⟩

theorem Rgd.ne {w : World} {m r : Nat} {f : Int → Int → Int} {sn : Int → Int → Bool} {c : Nat} (h : Rgd w m r f sn c) : r ≠ m := by
  obtain ⟨es, clock, seen, hb, E, hr, _⟩ := h
  rintro rfl
  rw [hb] at hr
  cases hr

theorem Rgd.left_eq {w : World} {m r : Nat} {f : Int → Int → Int} {sn : Int → Int → Bool} {c : Nat} (h : Rgd w m r f sn c) : w.rangeLeft m r = c := by
  obtain ⟨es, clock, seen, hb, _, hr, _, hc⟩ := h
  simp only [World.rangeLeft, hb, hr]
  exact hc

theorem Rgd.keeps {w w' : World} {m r : Nat} {f : Int → Int → Int} {sn : Int → Int → Bool} {c : Nat} {S : List Nat} (h : Rgd w m r f sn c) (hk : Keeps S w w') (hm : m ∉ S) (hr : r ∉ S) : Rgd w' m r f sn c := by
  obtain ⟨es, clock, seen, hb, E, hi, rest⟩ := h
  exact ⟨es, clock, seen, (hk.block m (Array.getElem?_eq_some_iff.1 hb).1 hm).trans hb, E, (hk.block r (Array.getElem?_eq_some_iff.1 hi).1 hr).trans hi, rest⟩

section
variable {P : Program} {t k e : TypeId} {w : World} {m : Nat} {f : Int → Int → Int}

/-- A program whose type t is a map from pairs of ints to ints. -/
structure PairMap (P : Program) (t k e : TypeId) : Prop where
  ht : P.underlying t = some (.map k e)
  he : P.underlying e = some (.int .i64)
  A : WideMaps.ArrKey P k e 2
  sz : ∃ m, P.types.size = m + 1
  zero : ∀ w : World, (zeroValue e).run P w = .ok (.int .i64 0) w

theorem PairMap.keyed (M : PairMap P t k e) : Keyed P k := Keyed.of_law M.A.law

/-- Both are ints of 64 bits. -/
def Wf2 (s i : Int) : Prop := (Lit.int .i64 s).wf = true ∧ (Lit.int .i64 i).wf = true

theorem PairMap.key (M : PairMap P t k e) {s i : Int} (h : Wf2 s i) : ∃ l, keyOf P k (entK s i) = some l := ⟨_, WideMaps.keyOf_pair M.A M.he M.sz h.1 h.2⟩

/-- All cells that are not nought have such keys. -/
def Wfs (f : Int → Int → Int) : Prop := ∀ s i, f s i ≠ 0 → Wf2 s i

theorem Ents.reads {es : Array MapEntry} {clock : Nat} (E : Ents es clock f) (M : PairMap P t k e) (hw : Wfs f) : ∀ x ∈ es.toList, ∃ l, keyOf P k x.key = some l := fun x hx => by
  obtain ⟨s, i, hk, _, hn⟩ := E.shape x hx
  rw [hk]
  exact M.key (hw s i hn)

/-- 'm[k]', 'v, ok := m[k]'. -/
theorem OmIs.look (h : OmIs w m f) (M : PairMap P t k e) (hw : Wfs f) {s i : Int} (hwf : Wf2 s i) (c : Bool) :
    (Instr.lookup t (.map (some m)) (entK s i) c).run P w = .ok (if c then .tuple #[.int .i64 (f s i), .bool (f s i != 0)] else .int .i64 (f s i)) w := by
  obtain ⟨es, clock, hb, E⟩ := h
  obtain ⟨l, hl⟩ := M.key hwf
  rcases M.keyed.find w hl es.toList (E.reads M hw) with ⟨h1, h2⟩ | ⟨j, e0, h1, h2, h3⟩
  · have h0 : f s i = 0 := Classical.byContradiction fun hn => by
      obtain ⟨x, hx, hk⟩ := E.there s i hn
      exact h2 x hx hk
    cases c <;> simp [Instr.lookup, run_underlying M.ht, MapKept.run_getObj_map hb, M.keyed.check w _ hl, h1, M.zero w, Result.andThen, h0]
  · obtain ⟨s', i', hk, hv, hn⟩ := E.shape e0 (List.mem_of_getElem? h2)
    obtain ⟨rfl, rfl⟩ := entK_inj (hk.symm.trans h3)
    have hb0 : (f s' i' != 0) = true := by simpa using hn
    rw [hv] at h1
    cases c <;> simp [Instr.lookup, run_underlying M.ht, MapKept.run_getObj_map hb, M.keyed.check w _ hl, h1, Result.andThen, hn]

/-- 'm[k] = v' at a key that is not there. -/
theorem OmIs.lay (h : OmIs w m f) (M : PairMap P t k e) (hw : Wfs f) {s i g : Int} (hwf : Wf2 s i) (h0 : f s i = 0) (hg : g ≠ 0) :
    ∃ w', (Instr.mapUpdate t (.map (some m)) (entK s i) (.int .i64 g)).run P w = .ok () w' ∧ OmIs w' m (upd f s i g) ∧ Keeps [m] w w' := by
  obtain ⟨es, clock, hb, E⟩ := h
  obtain ⟨l, hl⟩ := M.key hwf
  have hno : ∀ x ∈ es.toList, x.key ≠ entK s i := fun x hx hk => by
    obtain ⟨s', i', hk', _, hn⟩ := E.shape x hx
    obtain ⟨rfl, rfl⟩ := entK_inj (hk'.symm.trans hk)
    exact hn h0
  rcases M.keyed.find w hl es.toList (E.reads M hw) with ⟨h1, h2⟩ | ⟨j, e0, h1, h2, h3⟩
  · refine ⟨setBlock w m (.map (es.push ⟨entK s i, .int .i64 g, clock⟩) (clock + 1)), ?_, ⟨_, _, heap_put_same hb _, ?_⟩, Keeps.put _⟩
    · simp [Instr.mapUpdate, run_underlying M.ht, MapKept.run_getObj_map hb, M.keyed.check w false hl, h1, MapKept.run_setObj_map _ hb, Result.andThen, setBlock]
    · refine ⟨fun x hx => ?_, fun a b hn => ?_, ?_, fun x hx => ?_, ?_⟩
      · simp only [Array.toList_push, List.mem_append, List.mem_singleton] at hx
        rcases hx with hx | rfl
        · obtain ⟨s', i', hk, hv, hn⟩ := E.shape x hx
          have hne : ¬(s' = s ∧ i' = i) := fun ⟨e1, e2⟩ => hno x hx (by rw [hk, e1, e2])
          exact ⟨s', i', hk, by rw [upd_ne _ _ _ _ hne]; exact hv, by rw [upd_ne _ _ _ _ hne]; exact hn⟩
        · exact ⟨s, i, rfl, by rw [upd_same], by rw [upd_same]; exact hg⟩
      · simp only [Array.toList_push, List.mem_append, List.mem_singleton]
        by_cases e1 : a = s ∧ b = i
        · obtain ⟨rfl, rfl⟩ := e1
          exact ⟨_, .inr rfl, rfl⟩
        · rw [upd_ne _ _ _ _ e1] at hn
          obtain ⟨x, hx, hk⟩ := E.there a b hn
          exact ⟨x, .inl hx, hk⟩
      · rw [Array.toList_push, List.pairwise_append]
        exact ⟨E.keys, by simp, fun x hx y hy => by rw [List.mem_singleton] at hy; subst hy; exact hno x hx⟩
      · simp only [Array.toList_push, List.mem_append, List.mem_singleton] at hx
        rcases hx with hx | rfl
        · have := E.born x hx; omega
        · exact Nat.lt_succ_self _
      · rw [Array.toList_push, List.map_append, List.nodup_append]
        refine ⟨E.bnd, by simp, fun a ha b hb' => ?_⟩
        obtain ⟨x, hx, rfl⟩ := List.mem_map.1 ha
        simp only [List.map_cons, List.map_nil, List.mem_singleton] at hb'
        subst hb'
        have := E.born x hx
        omega
  · exact absurd h3 (hno e0 (List.mem_of_getElem? h2))

/-- 'delete(m, k)' at a key that is there. -/
theorem OmIs.drop (h : OmIs w m f) (M : PairMap P t k e) (hw : Wfs f) {s i : Int} (hwf : Wf2 s i) (h0 : f s i ≠ 0) (ty : TypeId) :
    ∃ w', (Builtin.delete_ #[t, k] ty #[.map (some m), entK s i]).run P w = .ok (.tuple #[]) w' ∧ OmIs w' m (upd f s i 0) ∧ Keeps [m] w w' := by
  obtain ⟨es, clock, hb, E⟩ := h
  obtain ⟨l, hl⟩ := M.key hwf
  rcases M.keyed.find w hl es.toList (E.reads M hw) with ⟨h1, h2⟩ | ⟨j, e0, h1, h2, h3⟩
  · obtain ⟨x, hx, hk⟩ := E.there s i h0
    exact absurd hk (h2 x hx)
  · have hjl : j < es.toList.length := (List.getElem?_eq_some_iff.1 h2).1
    have hjs : j < es.size := by simpa using hjl
    have hsub : (es.eraseIdxIfInBounds j).toList = es.toList.eraseIdx j := by
      unfold Array.eraseIdxIfInBounds
      rw [dif_pos hjs]
      simp
    have hmem : ∀ x, x ∈ es.toList.eraseIdx j ↔ (x ∈ es.toList ∧ x.key ≠ entK s i) := fun x => by
      constructor
      · intro hx
        obtain ⟨q, hne, hq⟩ := List.mem_eraseIdx_iff_getElem?.1 hx
        refine ⟨List.mem_of_getElem? hq, fun hk => hne ?_⟩
        rcases Nat.lt_trichotomy q j with hlt | heq | hgt
        · exact absurd (hk.trans h3.symm) (List.pairwise_iff_getElem.1 E.keys q j (List.getElem?_eq_some_iff.1 hq).1 hjl hlt |> fun hh => by rw [(List.getElem?_eq_some_iff.1 hq).2, (List.getElem?_eq_some_iff.1 h2).2] at hh; exact hh)
        · exact heq
        · exact absurd (h3.trans hk.symm) (List.pairwise_iff_getElem.1 E.keys j q hjl (List.getElem?_eq_some_iff.1 hq).1 hgt |> fun hh => by rw [(List.getElem?_eq_some_iff.1 hq).2, (List.getElem?_eq_some_iff.1 h2).2] at hh; exact hh)
      · rintro ⟨hx, hk⟩
        obtain ⟨q, hq⟩ := List.getElem?_of_mem hx
        refine List.mem_eraseIdx_iff_getElem?.2 ⟨q, fun e1 => hk ?_, hq⟩
        rw [e1, h2] at hq
        cases hq
        exact h3
    refine ⟨setBlock w m (.map (es.eraseIdxIfInBounds j) clock), ?_, ⟨_, _, heap_put_same hb _, ?_⟩, Keeps.put _⟩
    · simp [Builtin.delete_, run_underlying M.ht, MapKept.run_getObj_map hb, M.keyed.check w _ hl, h1, MapKept.run_setObj_map _ hb, Result.andThen, setBlock]
    · refine ⟨fun x hx => ?_, fun a b hn => ?_, ?_, fun x hx => ?_, ?_⟩
      · rw [hsub, hmem] at hx
        obtain ⟨s', i', hk, hv, hn⟩ := E.shape x hx.1
        have hne : ¬(s' = s ∧ i' = i) := fun ⟨e1, e2⟩ => hx.2 (by rw [hk, e1, e2])
        exact ⟨s', i', hk, by rw [upd_ne _ _ _ _ hne]; exact hv, by rw [upd_ne _ _ _ _ hne]; exact hn⟩
      · rw [hsub]
        by_cases e1 : a = s ∧ b = i
        · obtain ⟨rfl, rfl⟩ := e1
          rw [upd_same] at hn
          exact absurd rfl hn
        · rw [upd_ne _ _ _ _ e1] at hn
          obtain ⟨x, hx, hk⟩ := E.there a b hn
          exact ⟨x, (hmem x).2 ⟨hx, fun hk' => e1 (entK_inj (hk.symm.trans hk'))⟩, hk⟩
      · rw [hsub]; exact E.keys.sublist (List.eraseIdx_sublist _ _)
      · rw [hsub, hmem] at hx; exact E.born x hx.1
      · rw [hsub]; exact E.bnd.sublist ((List.eraseIdx_sublist _ _).map _)

/-! ### A range -/

/-- 'range m'. -/
theorem OmIs.range (h : OmIs w m f) (M : PairMap P t k e) : ∃ c, (Instr.range t (.map (some m))).run P w = .ok (.pointer (some ⟨w.heap.size, 0, none⟩)) (w.alloc (.mapIter (some m) c #[] c)) ∧ ∃ c', Rgd (w.alloc (.mapIter (some m) c #[] c)) m w.heap.size f (fun _ _ => false) c' := by
  have hlt := h.lt
  obtain ⟨es, clock, hb, E⟩ := h
  exact ⟨clock, run_range_map w t k e m es clock M.ht hb, _, es, clock, #[], (heap_alloc_old w _ hlt).trans hb, E, heap_alloc_new w _, fun _ _ _ _ _ => by simp, rfl⟩

theorem same_entry {es : Array MapEntry} {clock : Nat} (E : Ents es clock f) {x y : MapEntry} (hx : x ∈ es.toList) (hy : y ∈ es.toList) (h : x.born = y.born) : x = y := by
  have h1 := find_born x es.toList E.bnd hx
  have h2 := find_born y es.toList E.bnd hy
  rw [h, h2] at h1
  exact (Option.some.inj h1).symm

/-- The step: nothing is left; or a cell comes. -/
theorem Rgd.next {r : Nat} {sn : Int → Int → Bool} {c : Nat} (h : Rgd w m r f sn c) (ty : TypeId) :
    ((∀ s i, f s i ≠ 0 → sn s i = true) ∧ (Instr.next (.pointer (some ⟨r, 0, none⟩)) false ty).run P w = .ok (.tuple #[.bool false]) w) ∨
    ∃ s i w' c', f s i ≠ 0 ∧ sn s i = false ∧ (Instr.next (.pointer (some ⟨r, 0, none⟩)) false ty).run P w = .ok (.tuple #[.bool true, entK s i, .int .i64 (f s i)]) w' ∧
      Rgd w' m r f (upd sn s i true) c' ∧ c' < c ∧ Keeps [r] w w' ∧ w'.heap.size = w.heap.size ∧ (Instr.entry (.pointer (some ⟨r, 0, none⟩))).run P w' = .ok (.tuple #[entK s i, .int .i64 (f s i)]) w' := by
  have hne := h.ne
  obtain ⟨es, clock, seen, hb, E, hr, hsn, rfl⟩ := h
  rcases run_next_at (P := P) w ty r m clock clock seen es clock hr hb E.born (Nat.le_refl _) with ⟨h0, hrun⟩ | ⟨x, hx, w1, hw1, hrun⟩
  · refine .inl ⟨fun s i hn => ?_, hrun⟩
    obtain ⟨x, hx, hk⟩ := E.there s i hn
    rw [← hsn x hx s i hk]
    cases hc : seen.contains x.born
    · have : x ∈ (leftOf es seen).toList := by unfold leftOf; simp only [Array.toList_filter, List.mem_filter]; exact ⟨hx, by rw [hc]; rfl⟩
      rw [← Array.length_toList] at h0
      rw [List.eq_nil_of_length_eq_zero h0] at this
      cases this
    · rfl
  · have hx0 : x ∈ es.toList ∧ seen.contains x.born = false := by
      unfold leftOf at hx
      simp only [Array.toList_filter, List.mem_filter] at hx
      exact ⟨hx.1, by simpa using hx.2⟩
    obtain ⟨s, i, hk, hv, hn⟩ := E.shape x hx0.1
    have hb1 : w1.heap[m]? = some (.map es clock) := by rcases hw1 with rfl | rfl <;> exact hb
    have hr1 : w1.heap[r]? = some (.mapIter (some m) clock seen clock) := by rcases hw1 with rfl | rfl <;> exact hr
    have hb2 : (setBlock w1 r (.mapIter (some m) clock (seen.push x.born) clock)).heap[m]? = some (.map es clock) := (heap_put_other _ hne.symm).trans hb1
    have hr2 := heap_put_same hr1 (.mapIter (some m) clock (seen.push x.born) clock)
    have hen := run_entry_at (P := P) _ r m clock seen es clock x hr2 hb2 hx0.1 E.bnd
    rw [hk, hv] at hrun hen
    refine .inr ⟨s, i, _, _, hn, by rw [← hsn x hx0.1 s i hk]; exact hx0.2, hrun, ⟨es, clock, seen.push x.born, hb2, E, hr2, fun y hy a b hyk => ?_, rfl⟩, left_shrinks es seen x (by simpa using hx), ?_, ?_, hen⟩
    · by_cases hxy : a = s ∧ b = i
      · obtain ⟨rfl, rfl⟩ := hxy
        have : y = x := entry_eq_of_key E.keys hy hx0.1 (hyk.trans hk.symm)
        subst this
        rw [upd_same]
        simp
      · rw [upd_ne _ _ _ _ hxy, ← hsn y hy a b hyk]
        have : y.born ≠ x.born := fun e1 => hxy (by have := same_entry E hy hx0.1 e1; subst this; exact entK_inj (hyk.symm.trans hk))
        simp [this]
    · rcases hw1 with rfl | rfl
      · exact Keeps.put _
      · exact (Keeps.refl [r] w).drew.trans (Keeps.put (w := w.drew) _) (by simp)
    · rcases hw1 with rfl | rfl <;> simp [setBlock]

/-- 'm[k] = v' in the round, at a key that is there. -/
theorem Rgd.store {r : Nat} {sn : Int → Int → Bool} {c : Nat} (h : Rgd w m r f sn c) (M : PairMap P t k e) (hw : Wfs f) {s i g : Int} (h0 : f s i ≠ 0) (hg : g ≠ 0) :
    ∃ w', (Instr.mapUpdate t (.map (some m)) (entK s i) (.int .i64 g)).run P w = .ok () w' ∧ Rgd w' m r (upd f s i g) sn c ∧ Keeps [m] w w' ∧ w'.heap.size = w.heap.size := by
  have hne := h.ne
  obtain ⟨es, clock, seen, hb, E, hr, hsn, rfl⟩ := h
  obtain ⟨l, hl⟩ := M.key (hw s i h0)
  rcases M.keyed.find w hl es.toList (E.reads M hw) with ⟨h1, h2⟩ | ⟨j, e0, h1, h2, h3⟩
  · obtain ⟨x, hx, hk⟩ := E.there s i h0
    exact absurd hk (h2 x hx)
  · have hj : es[j]? = some e0 := by simpa using h2
    have hlist : (es.modify j (fun e' => { e' with key := entK s i, val := .int .i64 g })).toList = es.toList.set j { e0 with key := entK s i, val := .int .i64 g } := by rw [Array.toList_modify, ChangeMaps.modify_eq_set _ _ _ _ h2]
    have hjl : j < es.toList.length := (List.getElem?_eq_some_iff.1 h2).1
    have hej : es.toList[j] = e0 := (List.getElem?_eq_some_iff.1 h2).2
    have hkeys : (es.toList.set j { e0 with key := entK s i, val := .int .i64 g }).map (·.key) = es.toList.map (·.key) := by
      rw [List.map_set]
      show (es.toList.map (·.key)).set j (entK s i) = _
      rw [← h3, ← hej]
      exact List.ext_getElem (by simp) fun n hn1 hn2 => by
        rw [List.getElem_set]
        split
        · next e1 => subst e1; simp
        · rfl
    have hborn : (es.toList.set j { e0 with key := entK s i, val := .int .i64 g }).map (·.born) = es.toList.map (·.born) := by
      rw [List.map_set]
      show (es.toList.map (·.born)).set j e0.born = _
      rw [← hej]
      exact List.ext_getElem (by simp) fun n hn1 hn2 => by
        rw [List.getElem_set]
        split
        · next e1 => subst e1; simp
        · rfl
    have who : ∀ x ∈ es.toList.set j { e0 with key := entK s i, val := .int .i64 g }, x = { e0 with key := entK s i, val := .int .i64 g } ∨ (x ∈ es.toList ∧ x.key ≠ entK s i) := by
      intro x hx
      obtain ⟨q, hq, ex⟩ := List.getElem_of_mem hx
      rw [List.getElem_set] at ex
      split at ex
      · exact .inl ex.symm
      · rename_i hnq
        have hq' : q < es.toList.length := by simpa using hq
        refine .inr ⟨ex ▸ List.getElem_mem hq', fun hk => ?_⟩
        rcases Nat.lt_or_gt_of_ne hnq with hlt | hgt
        · exact List.pairwise_iff_getElem.1 E.keys j q hjl hq' hlt (by rw [hej, ex, h3, hk])
        · exact List.pairwise_iff_getElem.1 E.keys q j hq' hjl hgt (by rw [hej, ex, h3, hk])
    have hleft : ∀ a : Array MapEntry, (leftOf a seen).size = ((a.toList.map (·.born)).filter fun b => !seen.contains b).length := fun a => by
      unfold leftOf
      rw [List.filter_map, List.length_map, ← Array.length_toList, Array.toList_filter]
      rfl
    refine ⟨setBlock w m (.map (es.modify j (fun e' => { e' with key := entK s i, val := .int .i64 g })) clock), ?_, ⟨_, clock, seen, heap_put_same hb _, ?_, (heap_put_other _ hne).trans hr, fun x hx a b hk => ?_, ?_⟩, Keeps.put _, by simp [setBlock]⟩
    · simp [Instr.mapUpdate, run_underlying M.ht, MapKept.run_getObj_map hb, M.keyed.check w false hl, h1, hj, h3, M.keyed.stays w hl, MapKept.run_setObj_map _ hb, Result.andThen, setBlock]
    · refine ⟨fun x hx => ?_, fun a b hn => ?_, ?_, fun x hx => ?_, ?_⟩
      · rw [hlist] at hx
        rcases who x hx with rfl | ⟨hx', hk'⟩
        · exact ⟨s, i, rfl, by rw [upd_same], by rw [upd_same]; exact hg⟩
        · obtain ⟨s', i', hk, hv, hn⟩ := E.shape x hx'
          have hne' : ¬(s' = s ∧ i' = i) := fun ⟨e1, e2⟩ => hk' (by rw [hk, e1, e2])
          exact ⟨s', i', hk, by rw [upd_ne _ _ _ _ hne']; exact hv, by rw [upd_ne _ _ _ _ hne']; exact hn⟩
      · have hf : f a b ≠ 0 := by
          by_cases e1 : a = s ∧ b = i
          · obtain ⟨rfl, rfl⟩ := e1; exact h0
          · rw [upd_ne _ _ _ _ e1] at hn; exact hn
        obtain ⟨x, hx, hk⟩ := E.there a b hf
        have : entK a b ∈ (es.toList.set j { e0 with key := entK s i, val := .int .i64 g }).map (·.key) := by rw [hkeys]; exact List.mem_map.2 ⟨x, hx, hk⟩
        obtain ⟨y, hy, hyk⟩ := List.mem_map.1 this
        exact ⟨y, by rw [hlist]; exact hy, hyk⟩
      · have k1 : (es.toList.map (fun x => x.key)).Pairwise (fun a b => a ≠ b) := List.pairwise_map.2 E.keys
        rw [hlist]
        rw [← hkeys] at k1
        exact List.pairwise_map.1 k1
      · rw [hlist] at hx
        have : x.born ∈ es.toList.map (·.born) := by rw [← hborn]; exact List.mem_map.2 ⟨x, hx, rfl⟩
        obtain ⟨y, hy, hyb⟩ := List.mem_map.1 this
        rw [← hyb]
        exact E.born y hy
      · rw [hlist, hborn]; exact E.bnd
    · rw [hlist] at hx
      rcases who x hx with rfl | ⟨hx', hk'⟩
      · exact hsn e0 (List.mem_of_getElem? h2) a b (h3.trans hk)
      · exact hsn x hx' a b hk
    · rw [hleft, hleft, hlist, hborn]

/-! ### At the operations -/
variable {ops : Array Oper} {rest : List Oper} {o : Oper} {a : Act} {Q : Exit → Act → World → Prop}

theorem wpList_range_om (hg : o.guard = none) (x : Operand) (hop : o.op = Op.range t x) (M : PairMap P t k e) (hm : a.eval x = .map (some m)) (h : OmIs w m f)
    (hK : ∀ w' c', Rgd w' m w.heap.size f (fun _ _ => false) c' → Keeps [] w w' → w'.heap.size = w.heap.size + 1 → wpList P ops Q rest (a.put o.dst (.pointer (some ⟨w.heap.size, 0, none⟩))) w') :
    wpList P ops Q (o :: rest) a w := by
  refine wpList_plain hg fun K' hK' => ?_
  obtain ⟨c, hrun, c', hr⟩ := h.range M
  unfold Oper.wp
  simp [execOp, hop, hm, hrun, Result.andThen]
  exact hK' _ _ (hK _ c' hr ((Keeps.refl [] w).alloc _) (by simp))

theorem wpList_next_om (hg : o.guard = none) (it : Operand) (hop : o.op = Op.next it false) {r : Nat} {sn : Int → Int → Bool} {c : Nat}
    (hit : a.eval it = .pointer (some ⟨r, 0, none⟩)) (h : Rgd w m r f sn c)
    (hDone : (∀ s i, f s i ≠ 0 → sn s i = true) → wpList P ops Q rest (a.put o.dst (.tuple #[.bool false])) w)
    (hMore : ∀ (s i : Int) (w' : World) (c' : Nat), f s i ≠ 0 → sn s i = false → Rgd w' m r f (upd sn s i true) c' → c' < c → Keeps [r] w w' → w'.heap.size = w.heap.size →
      (Instr.entry (.pointer (some ⟨r, 0, none⟩))).run P w' = .ok (.tuple #[entK s i, .int .i64 (f s i)]) w' → wpList P ops Q rest (a.put o.dst (.tuple #[.bool true, entK s i, .int .i64 (f s i)])) w') :
    wpList P ops Q (o :: rest) a w := by
  refine wpList_plain hg fun K' hK' => ?_
  unfold Oper.wp
  rcases h.next (P := P) o.type with ⟨hl, hrun⟩ | ⟨s, i, w', c', h1, h2, hrun, h3, h4, h5, h6, h7⟩
  · simp [execOp, hop, hit, hrun, Result.andThen]
    exact hK' _ _ (hDone hl)
  · simp only [execOp, hop, hit, hrun, Sem.run_bind, Sem.run_pure, Result.andThen_ok]
    exact hK' _ _ (hMore s i w' c' h1 h2 h3 h4 h5 h6 h7)

theorem wpList_lay_om (hg : o.guard = none) (x y v : Operand) (hop : o.op = Op.mapUpdate t x y v) (M : PairMap P t k e) (hw : Wfs f) (hm : a.eval x = .map (some m)) (h : OmIs w m f)
    {s i g : Int} (hx : a.eval y = entK s i) (hv : a.eval v = .int .i64 g) (hwf : Wf2 s i) (h0 : f s i = 0) (hg0 : g ≠ 0)
    (hK : ∀ w', OmIs w' m (upd f s i g) → Keeps [m] w w' → wpList P ops Q rest (a.put o.dst undef) w') : wpList P ops Q (o :: rest) a w := by
  refine wpList_plain hg fun K' hK' => ?_
  obtain ⟨w', hrun, r1, r2⟩ := h.lay M hw hwf h0 hg0
  unfold Oper.wp
  simp only [execOp, hop, hm, hx, hv, hrun, Sem.run_bind, Sem.run_pure, Result.andThen_ok]
  exact hK' _ _ (hK w' r1 r2)

theorem wpList_store_om (hg : o.guard = none) (x y v : Operand) (hop : o.op = Op.mapUpdate t x y v) (M : PairMap P t k e) (hw : Wfs f) {r : Nat} {sn : Int → Int → Bool} {c : Nat} (hm : a.eval x = .map (some m)) (h : Rgd w m r f sn c)
    {s i g : Int} (hx : a.eval y = entK s i) (hv : a.eval v = .int .i64 g) (h0 : f s i ≠ 0) (hg0 : g ≠ 0)
    (hK : ∀ w', Rgd w' m r (upd f s i g) sn c → Keeps [m] w w' → w'.heap.size = w.heap.size → wpList P ops Q rest (a.put o.dst undef) w') : wpList P ops Q (o :: rest) a w := by
  refine wpList_plain hg fun K' hK' => ?_
  obtain ⟨w', hrun, r1, r2, r3⟩ := h.store M hw h0 hg0
  unfold Oper.wp
  simp only [execOp, hop, hm, hx, hv, hrun, Sem.run_bind, Sem.run_pure, Result.andThen_ok]
  exact hK' _ _ (hK w' r1 r2 r3)

theorem wpList_drop_om (hg : o.guard = none) (x y : Operand) (hop : o.op = Op.call { callee := Callee.builtin Builtin.delete, args := #[x, y], argTypes := #[t, k] }) (M : PairMap P t k e) (hw : Wfs f) (hm : a.eval x = .map (some m)) (h : OmIs w m f)
    {s i : Int} (hx : a.eval y = entK s i) (hwf : Wf2 s i) (h0 : f s i ≠ 0)
    (hK : ∀ w', OmIs w' m (upd f s i 0) → Keeps [m] w w' → wpList P ops Q rest (a.put o.dst (.tuple #[])) w') : wpList P ops Q (o :: rest) a w := by
  refine wpList_plain hg fun K' hK' => ?_
  obtain ⟨w', hrun, r1, r2⟩ := h.drop M hw hwf h0 o.type
  unfold Oper.wp
  simp [execOp, hop, resolve, invoke, builtin, hm, hx, hrun, Result.andThen]
  exact hK' _ _ (hK w' r1 r2)

end
end Go.Proofs.Ytlndpljhcempoaa
