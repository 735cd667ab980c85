/- Charges, plainly: what a path's charge turns; that giving back what was charged turns nothing. No program, no condition. -/
import Derived.Test.YtlndpljhcempoaaPath
import Derived.Test.YtlndpljhcempoaaSumsA
namespace Go.Proofs.Ytlndpljhcempoaa
open Go.RowKit

theorem pth_ok : ∀ k, 1 ≤ k → k ≤ 16 → allIn (pth k) = true ∧ dupTo (pth k) (pth k).length = false ∧ 1 ≤ (pth k).length := by
  intro k h1 h2
  have : ∀ k : Fin 17, 1 ≤ k.val → allIn (pth k.val) = true ∧ dupTo (pth k.val) (pth k.val).length = false ∧ 1 ≤ (pth k.val).length := by decide
  exact this ⟨k, by omega⟩ h1

theorem pathL_ask (g n : Int) (hn : 0 ≤ n ∧ n ≤ 9007199254740991) : askE (pathL g) n = 0 := by
  unfold pathL
  obtain ⟨h1, h2, h3⟩ := pth_ok (1 + g % 16).toNat (by omega) (by omega)
  have h4 := pth_len (1 + g % 16).toNat (by omega)
  refine ask_ok _ _ h1 (fun hc => ?_)
  rcases hc with hc | hc | hc | hc | hc
  · rw [h2] at hc; cases hc
  all_goals omega

/-- What a charge turns, group by group. -/
theorem chgTo_get (U zs : List Int) (m : Int) (hU : U.length = 16) (hz : ∀ i, i < zs.length → 1 ≤ zs.getD i 0 ∧ zs.getD i 0 ≤ 16) (hd : dupTo zs zs.length = false) (k : Nat) (j : Nat) (hj : j ≤ zs.length) :
    (chgTo U zs m j).getD k 0 = U.getD k 0 + if ((k : Int) + 1) ∈ zs.take j then m else 0 := by
  induction j with
  | zero => simp [chgTo]
  | succ j ih =>
    have ih := ih (by omega)
    have h1 := hz j (by omega)
    have hno := dupTo_not zs zs.length hd j (by omega)
    simp only [chgTo]
    rw [getD_set _ _ _ _ (by rw [chgTo_len, hU]; omega)]
    by_cases hkk : k = (zs.getD j 0 - 1).toNat
    · rw [if_pos hkk, ← hkk, ih]
      have e : (k : Int) + 1 = zs.getD j 0 := by omega
      rw [if_neg (by rw [e]; exact hno), if_pos ((mem_take_succ zs j (by omega) _).2 (.inr e))]
      omega
    · rw [if_neg hkk, ih]
      have e : ¬ (k : Int) + 1 = zs.getD j 0 := by omega
      have : (((k : Int) + 1) ∈ zs.take (j + 1)) ↔ ((k : Int) + 1) ∈ zs.take j := by
        rw [mem_take_succ zs j (by omega)]
        exact ⟨fun h => h.resolve_right e, .inl⟩
      simp only [this]

theorem eq_of_getD {A B : List Int} (hl : A.length = B.length) (h : ∀ k, A.getD k 0 = B.getD k 0) : A = B := by
  apply List.ext_getElem hl
  intro i h1 h2
  have := h i
  rwa [List.getD_eq_getElem?_getD, List.getD_eq_getElem?_getD, List.getElem?_eq_getElem h1, List.getElem?_eq_getElem h2] at this

theorem mem_take_self {zs : List Int} {i : Nat} (hi : i < zs.length) : zs.getD i 0 ∈ zs.take zs.length := by
  rw [List.take_length]; exact getD_mem0 zs i hi

/-- Charged and given back: nothing has turned. -/
theorem chg_back (U zs : List Int) (n : Int) (hU : U.length = 16) (hB : Bd U) (hz : ∀ i, i < zs.length → 1 ≤ zs.getD i 0 ∧ zs.getD i 0 ≤ 16) (hd : dupTo zs zs.length = false) (ha : askE zs n = 0) :
    backE (chgTo U zs n zs.length) zs n = 0 ∧ backU (chgTo U zs n zs.length) zs n = U := by
  have hlen : (chgTo U zs n zs.length).length = 16 := by rw [chgTo_len, hU]
  have hlow : lowTo (chgTo U zs n zs.length) zs n zs.length = false := by
    have : ∀ j, j ≤ zs.length → lowTo (chgTo U zs n zs.length) zs n j = false := by
      intro j
      induction j with
      | zero => intro _; rfl
      | succ j ih =>
        intro hj
        have h1 := hz j (by omega)
        simp only [lowTo]
        rw [ih (by omega), chgTo_get U zs n hU hz hd _ _ (Nat.le_refl _), if_pos (by rw [show ((zs.getD j 0 - 1).toNat : Int) + 1 = zs.getD j 0 from by omega]; exact mem_take_self (by omega))]
        have := hB _ (getD_mem0 U (zs.getD j 0 - 1).toNat (by omega))
        simp only [Bool.false_or, decide_eq_false_iff_not]
        omega
    exact this _ (Nat.le_refl _)
  have e1 : backE (chgTo U zs n zs.length) zs n = 0 := by unfold backE; rw [if_neg (by rw [ha]; simp), hlow]; rfl
  refine ⟨e1, ?_⟩
  unfold backU
  rw [if_neg (by rw [e1]; simp)]
  refine eq_of_getD (by rw [chgTo_len, chgTo_len]) (fun k => ?_)
  rw [chgTo_get _ zs (-n) hlen hz hd _ _ (Nat.le_refl _), chgTo_get U zs n hU hz hd _ _ (Nat.le_refl _)]
  split <;> omega

theorem tryI_some (U M zs : List Int) (n g : Int) (j : Nat) (h : tryI U M zs n j = some g) : ∃ i, i < j ∧ g = zs.getD i 0 ∧ upE (chgTo U zs n i) M (zs.getD i 0) n ≠ 0 := by
  induction j with
  | zero => cases h
  | succ j ih =>
    simp only [tryI] at h
    cases hj : tryI U M zs n j with
    | some g' =>
      rw [hj] at h
      obtain ⟨i, hi, h1, h2⟩ := ih (by rw [hj]; exact h)
      exact ⟨i, by omega, h1, h2⟩
    | none =>
      rw [hj] at h
      by_cases hu : upE (chgTo U zs n j) M (zs.getD j 0) n ≠ 0
      · dsimp only at h
        rw [if_pos hu] at h
        simp only [Option.some.injEq] at h
        exact ⟨j, by omega, h.symm, hu⟩
      · dsimp only at h
        rw [if_neg hu] at h; cases h

/-- Either the whole path is charged; or a group is refused, whose limit it would break, and nothing turns. -/
theorem try_cases (U M zs : List Int) (n : Int) (hU : U.length = 16) (ha : askE zs n = 0) :
    (tryR U M zs n = (0, 0) ∧ tryU U M zs n = chgTo U zs n zs.length) ∨
    ∃ g : Nat, 1 ≤ g ∧ g ≤ 16 ∧ tryR U M zs n = ((g : Int), 120) ∧ tryU U M zs n = U ∧ M.getD (g - 1) 0 < U.getD (g - 1) 0 + n := by
  obtain ⟨hz, hd, h0, h8, hn0, hn1⟩ := ask_zero ha
  cases ht : tryI U M zs n zs.length with
  | none =>
    have e1 : tryR U M zs n = (0, 0) := by unfold tryR; rw [if_neg (by rw [ha]; simp), ht]
    exact .inl ⟨e1, by unfold tryU; rw [e1]; rfl⟩
  | some z =>
    obtain ⟨i, hi, rfl, hu⟩ := tryI_some U M zs n z _ ht
    have h1 := hz i hi
    have e1 : tryR U M zs n = (zs.getD i 0, 120) := by unfold tryR; rw [if_neg (by rw [ha]; simp), ht]
    refine .inr ⟨(zs.getD i 0).toNat, by omega, by omega, by rw [e1, show ((zs.getD i 0).toNat : Int) = zs.getD i 0 from by omega], by unfold tryU; rw [if_pos (by rw [e1]; simp)], ?_⟩
    have ha1 : askE [zs.getD i 0] n = 0 := by rw [ask_one, if_neg (by omega), if_neg (by omega)]
    have hk : zs.getD i 0 = ((zs.getD i 0 - 1).toNat : Int) + 1 := by omega
    rw [show (zs.getD i 0).toNat - 1 = (zs.getD i 0 - 1).toNat from by omega]
    have hg := chgTo_get U zs n hU hz hd (zs.getD i 0 - 1).toNat i (by omega)
    rw [← hk, if_neg (dupTo_not zs zs.length hd i hi), Int.add_zero] at hg
    have := fun h => hu (by rw [hk]; exact (upE_ok (U := chgTo U zs n i) (M := M) (k := (zs.getD i 0 - 1).toNat) (n := n) (by rw [← hk]; exact ha1) h).1)
    rw [hg] at this
    exact Classical.byContradiction fun hc => this (by omega)

end Go.Proofs.Ytlndpljhcempoaa
