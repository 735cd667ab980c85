/- ChargeBounds, plainly: what each call may turn; a list of calls of counters with their paths. No program's walk, no condition but that the list reads. -/
import Derived.Test.YtlndpljhcempoaaChgL
import Derived.Test.YtlndpljhcempoaaChgBackW
import Derived.Test.YtlndpljhcempoaaOpen
import Derived.OpenShut
namespace Go.Proofs.Ytlndpljhcempoaa
open Go.ChangeShapes Go.WideShapes Go.RowKit

/-- What a call may turn: nothing at an error or a limit's; nothing above the limit. -/
structure StepOk (U : List Int) (e kz : Int) (U' M' : List Int) : Prop where
  same : (e ≠ 0 ∨ kz = 0) → U' = U
  lim : ∀ k, k < 16 → U.getD k 0 < U'.getD k 0 → U'.getD k 0 ≤ M'.getD k 0

theorem StepOk.refl (U M : List Int) (e kz : Int) : StepOk U e kz U M := ⟨fun _ => rfl, fun k _ h => by omega⟩

theorem set_getD (U : List Int) (j k : Nat) (x : Int) (hj : j < U.length) : (U.set j x).getD k 0 = if k = j then x else U.getD k 0 := getD_set U j k x hj

theorem stepOk_up (U M : List Int) (g n kz : Int) (hU : U.length = 16) (hkz : kz ≠ 0) : StepOk U (upE U M g n) kz (upU U M g n) M := by
  by_cases h : upE U M g n = 0
  · refine ⟨fun h' => absurd h' (by omega), fun k hk hlt => ?_⟩
    have ha : askE [g] n = 0 := by
      apply Classical.byContradiction
      intro hc
      rw [(upE_ne (U := U) (M := M) hc).1] at h
      exact hc h
    obtain ⟨j, rfl, hj, _, _⟩ := ask_one_zero ha
    by_cases hle : n ≤ M.getD j 0 - U.getD j 0
    · rw [(upE_ok ha hle).2] at hlt ⊢
      rw [set_getD U j k _ (by omega)] at hlt ⊢
      by_cases hkj : k = j
      · subst hkj; rw [if_pos rfl] at hlt ⊢; omega
      · rw [if_neg hkj] at hlt ⊢; omega
    · rw [(upE_no ha (by omega)).1] at h; cases h
  · rw [upU_no h]; exact StepOk.refl _ _ _ _

theorem stepOk_down (U M : List Int) (g n kz : Int) (hU : U.length = 16) (hkz : kz ≠ 0) : StepOk U (downE U g n) kz (downU U g n) M := by
  by_cases ha : askE [g] n = 0
  · obtain ⟨j, rfl, hj, hn, _⟩ := ask_one_zero ha
    by_cases hle : n ≤ U.getD j 0
    · obtain ⟨e1, e2⟩ := downE_ok ha hle
      rw [e1, e2]
      refine ⟨fun h' => absurd h' (by omega), fun k hk hlt => ?_⟩
      rw [set_getD U j k _ (by omega)] at hlt ⊢
      by_cases hkj : k = j
      · subst hkj; rw [if_pos rfl] at hlt ⊢; omega
      · rw [if_neg hkj] at hlt ⊢; omega
    · obtain ⟨e1, e2⟩ := downE_no ha (show U.getD j 0 < n by omega)
      rw [e1, e2]; exact StepOk.refl _ _ _ _
  · obtain ⟨e1, e2⟩ := downE_ne (U := U) ha
    rw [e2]; exact StepOk.refl _ _ _ _

theorem tryI_none (U M zs : List Int) (n : Int) (j : Nat) (h : tryI U M zs n j = none) (i : Nat) (hi : i < j) : upE (chgTo U zs n i) M (zs.getD i 0) n = 0 := by
  induction j with
  | zero => omega
  | succ j ih =>
    simp only [tryI] at h
    cases hj : tryI U M zs n j with
    | some g' => rw [hj] at h; cases h
    | none =>
      rw [hj] at h
      by_cases hij : i = j
      · subst hij
        apply Classical.byContradiction
        intro hc
        dsimp only at h
        rw [if_pos hc] at h; cases h
      · exact ih hj (by omega)

theorem stepOk_try (U M zs : List Int) (n kz : Int) (hU : U.length = 16) (hkz : kz ≠ 0) : StepOk U (tryR U M zs n).2 kz (tryU U M zs n) M := by
  by_cases ha : askE zs n = 0
  · obtain ⟨hz, hd, h0, h8, hn0, hn1⟩ := ask_zero ha
    cases ht : tryI U M zs n zs.length with
    | some g =>
      have e1 : tryR U M zs n = (g, 120) := by unfold tryR; rw [if_neg (by rw [ha]; simp), ht]
      have e2 : tryU U M zs n = U := by unfold tryU; rw [if_pos (by rw [e1]; simp)]
      rw [e2]; exact StepOk.refl _ _ _ _
    | none =>
      have e1 : tryR U M zs n = (0, 0) := by unfold tryR; rw [if_neg (by rw [ha]; simp), ht]
      have e2 : tryU U M zs n = chgTo U zs n zs.length := by unfold tryU; rw [e1]; rfl
      rw [e1, e2]
      refine ⟨fun h' => absurd h' (by simp; exact hkz), fun k hk hlt => ?_⟩
      rw [chgTo_get U zs n hU hz hd k _ (Nat.le_refl _)] at hlt ⊢
      by_cases hm : ((k : Int) + 1) ∈ zs.take zs.length
      · rw [if_pos hm]
        rw [List.take_length] at hm
        obtain ⟨i, hi, hie⟩ := List.getElem_of_mem hm
        have hgi : zs.getD i 0 = (k : Int) + 1 := by rw [List.getD_eq_getElem?_getD, List.getElem?_eq_getElem hi]; exact hie
        have hup := tryI_none U M zs n _ ht i hi
        have ha1 : askE [zs.getD i 0] n = 0 := by have := hz i hi; rw [ask_one, if_neg (by omega), if_neg (by omega)]
        have hg := chgTo_get U zs n hU hz hd k i (by omega)
        rw [← hgi, if_neg (dupTo_not zs zs.length hd i hi), Int.add_zero] at hg
        rw [hgi] at hup ha1
        by_cases hle : n ≤ M.getD k 0 - (chgTo U zs n i).getD k 0
        · rw [hg] at hle; omega
        · rw [(upE_no ha1 (by omega)).1] at hup; cases hup
      · rw [if_neg hm] at hlt; omega
  · have e1 : tryR U M zs n = (0, askE zs n) := by unfold tryR; rw [if_pos ha]
    have e2 : tryU U M zs n = U := by unfold tryU; rw [if_pos (by rw [e1]; exact ha)]
    rw [e2]; exact StepOk.refl _ _ _ _

theorem stepOk_back (U M zs : List Int) (n kz : Int) (hU : U.length = 16) (hkz : kz ≠ 0) : StepOk U (backE U zs n) kz (backU U zs n) M := by
  by_cases h : backE U zs n = 0
  · have ha : askE zs n = 0 := by
      apply Classical.byContradiction
      intro hc
      unfold backE at h
      rw [if_pos hc] at h
      exact hc h
    obtain ⟨hz, hd, h0, h8, hn0, hn1⟩ := ask_zero ha
    have e2 : backU U zs n = chgTo U zs (-n) zs.length := by unfold backU; rw [if_neg (by rw [h]; simp)]
    rw [e2]
    refine ⟨fun h' => absurd h' (by omega), fun k hk hlt => ?_⟩
    rw [chgTo_get U zs (-n) hU hz hd k _ (Nat.le_refl _)] at hlt
    split at hlt <;> omega
  · have e2 : backU U zs n = U := by unfold backU; rw [if_pos h]
    rw [e2]; exact StepOk.refl _ _ _ _

/-! ### The list -/

/-- The cells of a call: three numbers, a path. -/
def Good12 (W : World) (j : Nat) (v : Value) : Prop :=
  (j < 3 → ∃ z : Int, v = .int .i64 z) ∧ (j = 3 → ∃ a zs cap, v = .slice a zs.length cap ∧ ∀ c, W.heap.size ≤ c → IntsAt W c a zs)

theorem path_open {H : Type} {enc : TypeId × Value → H} {w : World} {base : Nat} {spare : Nat → Bool} {held : Bool} {fuel : Nat} {v : Value} {y : DataW H × List MemPlace}
    (h : DataW.trod enc Try.prog w base spare held fuel 54 [v] = some y) : ∃ a zs cap, v = .slice a zs.length cap ∧ ∀ c, w.heap.size ≤ c → IntsAt w c a zs := by
  rcases open_ints Try.underlying54 Try.underlying3 (by kernel_rfl) h with ⟨hcs, _⟩ | ⟨x, l, c, zs, hcs, _, hl, hm, hz, _, hcell, _⟩
  · simp at hcs
    exact ⟨none, [], 0, hcs, fun c _ => ⟨by simp, .inl rfl⟩⟩
  · simp at hcs
    have hlz : l ≤ zs.length := by rw [hz]; split <;> omega
    refine ⟨some x, zs.take l, c, by rw [hcs, List.length_take, Nat.min_eq_left hlz], fun b hb => ?_⟩
    refine ⟨by rw [List.length_take]; unfold maxLen at hm; omega, ?_⟩
    by_cases h0 : l = 0
    · exact .inl (by rw [h0]; rfl)
    · obtain ⟨bb, off, hx, hc2⟩ := ints_at hcell (by omega)
      subst hx
      have hlt : bb < w.heap.size := by
        have := hc2 0 (by omega)
        rcases Nat.lt_or_ge bb w.heap.size with h' | h'
        · exact h'
        · simp [World.cell?, Array.getElem?_eq_none h'] at this
      refine .inr ⟨bb, off, rfl, hlt, by omega, fun i hi => ?_⟩
      rw [List.length_take] at hi
      rw [hc2 i (by omega)]
      simp [List.getElem?_take_of_lt (show i < l by omega)]

theorem elems12 {H : Type} {enc : TypeId × Value → H} {w : World} {base : Nat} {spare : Nat → Bool} {held : Bool} {fuel : Nat} {a : Option Addr} {len cap : Nat} {x : DataW H × List MemPlace}
    (h : DataW.trod enc Try.prog w base spare held fuel 51 (Value.slice a len cap).cells.toList = some x) : IsElems w a len cap 4 (Good12 w) := by
  rcases open_structs Try.underlying51 Try.underlying56 (by kernel_rfl) (fun j f hj => by
    match j, hj with
    | 0, hj | 1, hj | 2, hj | 3, hj => cases hj; exact ⟨rfl, by kernel_rfl⟩) h with hcs | ⟨a', l, c, n, hcs, hl, hm, hx⟩
  · simp [Value.cells] at hcs
    obtain ⟨rfl, rfl, rfl⟩ := hcs
    exact .inl ⟨rfl, rfl, rfl⟩
  · simp [Value.cells] at hcs
    obtain ⟨rfl, rfl, rfl⟩ := hcs
    refine .inr ⟨_, rfl, hl, hm, fun i hi j hj => ?_⟩
    have one : ∀ (j : Nat) (f : Field), (_ : Array Field)[j]? = some f → Try.prog.underlying f.type = some (.int .i64) → ∃ v, w.cell? (a'.add (i * 4 + j)) = some v ∧ ∃ z : Int, v = .int .i64 z := fun j f hf hk => by
      obtain ⟨v, y, hv, hy⟩ := hx i hi j f hf
      obtain ⟨z, e, _, _⟩ := DataW.trod_int hk hy
      simp at e
      exact ⟨v, hv, z, e⟩
    match j, hj with
    | 0, _ => obtain ⟨v, hv, hz⟩ := one 0 _ rfl Try.underlying3; exact ⟨v, hv, fun _ => hz, fun h => absurd h (by omega)⟩
    | 1, _ => obtain ⟨v, hv, hz⟩ := one 1 _ rfl Try.underlying3; exact ⟨v, hv, fun _ => hz, fun h => absurd h (by omega)⟩
    | 2, _ => obtain ⟨v, hv, hz⟩ := one 2 _ rfl Try.underlying3; exact ⟨v, hv, fun _ => hz, fun h => absurd h (by omega)⟩
    | 3, _ =>
      obtain ⟨v, y, hv, hy⟩ := hx i hi 3 _ rfl
      exact ⟨v, hv, fun h => absurd h (by omega), fun _ => path_open hy⟩

theorem IsElems.four12 {w : World} {a : Option Addr} {len cap : Nat} (h : IsElems w a len cap 4 (Good12 w)) {j : Nat} (hj : j < len) :
    ∃ b off kd g n ap zs cp, a = some ⟨b, off, none⟩ ∧ b < w.heap.size ∧ Do12At w b (off + j * 4) kd g n ∧ w.cell? ⟨b, off + j * 4 + 3, none⟩ = some (.slice ap zs.length cp) ∧ ∀ c, w.heap.size ≤ c → IntsAt w c ap zs := by
  obtain ⟨b, off, ha, hb, hcell⟩ := h.at (by omega) hj
  obtain ⟨v0, c0, h0, _⟩ := hcell 0 (by omega)
  obtain ⟨v1, c1, h1, _⟩ := hcell 1 (by omega)
  obtain ⟨v2, c2, h2, _⟩ := hcell 2 (by omega)
  obtain ⟨v3, c3, _, h3⟩ := hcell 3 (by omega)
  obtain ⟨z0, rfl⟩ := h0 (by omega)
  obtain ⟨z1, rfl⟩ := h1 (by omega)
  obtain ⟨z2, rfl⟩ := h2 (by omega)
  obtain ⟨ap, zs, cp, rfl, hp⟩ := h3 rfl
  exact ⟨b, off, z0, z1, z2, ap, zs, cp, ha, hb, ⟨c0, by simpa [Nat.add_assoc] using c1, by simpa [Nat.add_assoc] using c2⟩, by simpa [Nat.add_assoc] using c3, hp⟩

end Go.Proofs.Ytlndpljhcempoaa
