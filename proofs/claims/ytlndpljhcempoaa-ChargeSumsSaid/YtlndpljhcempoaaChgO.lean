/- ChargeSums, plainly: each group's count is the sum of what was tried on the paths with it. No program, no condition. -/
import Derived.Test.YtlndpljhcempoaaChgL
namespace Go.Proofs.Ytlndpljhcempoaa
open Go.RowKit

theorem pathL_pred (g : Nat) (h1 : 1 ≤ g) (h2 : g ≤ 16) : pathL ((g : Int) - 1) = pth g := by
  unfold pathL
  rw [show (1 + ((g : Int) - 1) % 16).toNat = g from by omega]

/-- What the first m groups' paths bring to group k + 1. -/
def sumTo (V : List Int) (k : Nat) : Nat → Int
  | 0 => 0
  | m + 1 => sumTo V k m + if ((k : Int) + 1) ∈ pth (m + 1) then V.getD (m + 1) 0 else 0

structure Own (V U : List Int) : Prop where
  len : V.length = 17
  nn : ∀ h, 1 ≤ h → h ≤ 16 → 0 ≤ V.getD h 0
  eq : ∀ k, k < 16 → U.getD k 0 = sumTo V k 16

theorem sumTo_zero (k m : Nat) : sumTo (List.replicate 17 0) k m = 0 := by
  induction m with
  | zero => rfl
  | succ m ih =>
    simp only [sumTo]
    rw [ih]
    have : (List.replicate 17 (0 : Int)).getD (m + 1) 0 = 0 := by
      rw [List.getD_eq_getElem?_getD, List.getElem?_replicate]; split <;> rfl
    rw [this]; simp

theorem Own.start : Own (List.replicate 17 0) (List.replicate 16 0) := by
  refine ⟨rfl, fun h h1 h2 => ?_, fun k hk => ?_⟩
  · rw [List.getD_eq_getElem?_getD, List.getElem?_replicate, if_pos (by omega)]; exact Int.le_refl _
  · rw [sumTo_zero, List.getD_eq_getElem?_getD, List.getElem?_replicate, if_pos hk]; rfl

theorem sumTo_add (V : List Int) (hl : V.length = 17) (g : Nat) (n : Int) (h1 : 1 ≤ g) (h2 : g ≤ 16) (k m : Nat) :
    sumTo (addTo V g n) k m = sumTo V k m + if g ≤ m ∧ ((k : Int) + 1) ∈ pth g then n else 0 := by
  induction m with
  | zero => simp only [sumTo]; rw [if_neg (by omega)]; rfl
  | succ m ih =>
    simp only [sumTo]
    rw [ih, addTo_get V g (m + 1) n (by omega)]
    by_cases hg : m + 1 = g
    · subst hg
      by_cases hm : ((k : Int) + 1) ∈ pth (m + 1)
      · rw [if_neg (by omega), if_pos hm, if_pos hm, if_pos rfl, if_pos ⟨Nat.le_refl _, hm⟩]; omega
      · rw [if_neg (by omega), if_neg hm, if_neg hm, if_neg (fun h => hm h.2)]
    · rw [if_neg hg]
      by_cases hle : g ≤ m ∧ ((k : Int) + 1) ∈ pth g
      · rw [if_pos hle, if_pos (show g ≤ m + 1 ∧ ((k : Int) + 1) ∈ pth g from ⟨by omega, hle.2⟩)]
        split <;> omega
      · rw [if_neg hle, if_neg (show ¬ (g ≤ m + 1 ∧ ((k : Int) + 1) ∈ pth g) from fun h => hle ⟨by omega, h.2⟩)]
        split <;> omega

theorem Own.add {V U U' : List Int} (h : Own V U) (g : Nat) (n : Int) (h1 : 1 ≤ g) (h2 : g ≤ 16) (hn : 0 ≤ V.getD g 0 + n) (hU : ∀ k, k < 16 → U'.getD k 0 = U.getD k 0 + if ((k : Int) + 1) ∈ pth g then n else 0) : Own (addTo V g n) U' := by
  have hl := h.len
  refine ⟨by rw [addTo_len, hl], fun q q1 q2 => ?_, fun k hk => ?_⟩
  · rw [addTo_get _ _ _ _ (by omega)]
    by_cases hq : q = g
    · subst hq; rw [if_pos rfl]; exact hn
    · rw [if_neg hq]; have := h.nn q q1 q2; omega
  · rw [hU k hk, h.eq k hk, sumTo_add V hl g n h1 h2]
    by_cases hm : ((k : Int) + 1) ∈ pth g
    · rw [if_pos hm, if_pos ⟨h2, hm⟩]
    · rw [if_neg hm, if_neg (fun h => hm h.2)]

theorem sumTo_ge {V U : List Int} (h : Own V U) (k g : Nat) (h1 : 1 ≤ g) (hm : ((k : Int) + 1) ∈ pth g) (m : Nat) (hm16 : m ≤ 16) : 0 ≤ sumTo V k m ∧ (g ≤ m → V.getD g 0 ≤ sumTo V k m) := by
  induction m with
  | zero => exact ⟨Int.le_refl _, fun h => by omega⟩
  | succ m ih =>
    obtain ⟨a1, a2⟩ := ih (by omega)
    have hv := h.nn (m + 1) (by omega) hm16
    simp only [sumTo]
    refine ⟨by split <;> omega, fun hg => ?_⟩
    by_cases he : g = m + 1
    · subst he; rw [if_pos hm]; omega
    · have := a2 (by omega)
      split <;> omega

theorem pth_facts (g : Nat) (h1 : 1 ≤ g) (h2 : g ≤ 16) : (∀ i, i < (pth g).length → 1 ≤ (pth g).getD i 0 ∧ (pth g).getD i 0 ≤ 16) ∧ dupTo (pth g) (pth g).length = false ∧ ((g - 1 : Nat) : Int) + 1 ∈ pth g := by
  have ha := pathL_ask ((g : Int) - 1) 0 (by omega)
  rw [pathL_pred g h1 h2] at ha
  obtain ⟨a1, a2, _⟩ := ask_zero ha
  refine ⟨a1, a2, ?_⟩
  rw [pth_step g h2 h1, show ((g - 1 : Nat) : Int) + 1 = (g : Int) from by omega]
  exact List.mem_cons_self

/-- What a group has itself is at most what it has in all. -/
theorem Own.le {V U : List Int} (h : Own V U) (g : Nat) (h1 : 1 ≤ g) (h2 : g ≤ 16) (k : Nat) (hk : k < 16) (hm : ((k : Int) + 1) ∈ pth g) : V.getD g 0 ≤ U.getD k 0 := by
  rw [h.eq k hk]
  exact (sumTo_ge h k g h1 hm 16 (Nat.le_refl _)).2 h2

theorem Own.bd {V U : List Int} (h : Own V U) (hB : Bd U) (hU : U.length = 16) (g : Nat) (h1 : 1 ≤ g) (h2 : g ≤ 16) : 0 ≤ V.getD g 0 ∧ V.getD g 0 ≤ 9007199254740991 := by
  have a := h.le g h1 h2 (g - 1) (by omega) (pth_facts g h1 h2).2.2
  have b := hB _ (getD_mem0 U (g - 1) (by omega))
  exact ⟨h.nn g h1 h2, by omega⟩

theorem Own.try {V U : List Int} (h : Own V U) (hU : U.length = 16) (g : Nat) (n : Int) (h1 : 1 ≤ g) (h2 : g ≤ 16) (hn : 0 ≤ n) : Own (addTo V g n) (chgTo U (pth g) n (pth g).length) := by
  obtain ⟨a1, a2, _⟩ := pth_facts g h1 h2
  refine h.add g n h1 h2 (by have := h.nn g h1 h2; omega) (fun k hk => ?_)
  rw [chgTo_get U (pth g) n hU a1 a2 k _ (Nat.le_refl _), List.take_length]

theorem Own.back {V U : List Int} (h : Own V U) (hU : U.length = 16) (g : Nat) (n : Int) (h1 : 1 ≤ g) (h2 : g ≤ 16) (hn : 0 ≤ n ∧ n ≤ 9007199254740991) (hv : n ≤ V.getD g 0) :
    backE U (pth g) n = 0 ∧ Own (addTo V g (-n)) (backU U (pth g) n) := by
  obtain ⟨a1, a2, _⟩ := pth_facts g h1 h2
  have ha := pathL_ask ((g : Int) - 1) n hn
  rw [pathL_pred g h1 h2] at ha
  have hlow : ∀ j, j ≤ (pth g).length → lowTo U (pth g) n j = false := by
    intro j
    induction j with
    | zero => intro _; rfl
    | succ j ih =>
      intro hj
      have hz := a1 j (by omega)
      simp only [lowTo]
      rw [ih (by omega)]
      have := h.le g h1 h2 ((pth g).getD j 0 - 1).toNat (by omega) (by rw [show (((pth g).getD j 0 - 1).toNat : Int) + 1 = (pth g).getD j 0 from by omega]; exact getD_mem0 _ j (by omega))
      simp only [Bool.false_or, decide_eq_false_iff_not]
      omega
  have e : backE U (pth g) n = 0 := by unfold backE; rw [if_neg (by rw [ha]; simp), hlow _ (Nat.le_refl _)]; rfl
  refine ⟨e, ?_⟩
  have e2 : backU U (pth g) n = chgTo U (pth g) (-n) (pth g).length := by unfold backU; rw [if_neg (by rw [e]; simp)]
  rw [e2]
  refine h.add g (-n) h1 h2 (by omega) (fun k hk => ?_)
  rw [chgTo_get U (pth g) (-n) hU a1 a2 k _ (Nat.le_refl _), List.take_length]

/-- What the first i of a path bring. -/
def partTo (V : List Int) (k m i : Nat) : Int := sumTo V k m + if ((k : Int) + 1) ∈ (pth (m + 1)).take i then V.getD (m + 1) 0 else 0

theorem partTo_zero (V : List Int) (k m : Nat) : partTo V k m 0 = sumTo V k m := by simp [partTo]
theorem partTo_full (V : List Int) (k m : Nat) : partTo V k m (pth (m + 1)).length = sumTo V k (m + 1) := by simp only [partTo, sumTo, List.take_length]
theorem partTo_hit (V : List Int) (k m i : Nat) (hm : m < 16) (hi : i < (pth (m + 1)).length) (h : (pth (m + 1)).getD i 0 = (k : Int) + 1) : partTo V k m i + V.getD (m + 1) 0 = partTo V k m (i + 1) := by
  have a2 := dupTo_not _ _ (pth_facts (m + 1) (by omega) (by omega)).2.1 i hi
  rw [h] at a2
  unfold partTo
  rw [if_neg a2, if_pos ((mem_take_succ _ i hi _).2 (.inr h.symm))]
  omega
theorem partTo_miss (V : List Int) (k m i : Nat) (hi : i < (pth (m + 1)).length) (h : ¬ (pth (m + 1)).getD i 0 = (k : Int) + 1) : partTo V k m (i + 1) = partTo V k m i := by
  unfold partTo
  have : (((k : Int) + 1) ∈ (pth (m + 1)).take (i + 1)) ↔ ((k : Int) + 1) ∈ (pth (m + 1)).take i := by
    rw [mem_take_succ _ i hi]
    exact ⟨fun h' => h'.resolve_right (fun e => h e.symm), .inl⟩
  simp only [this]

theorem partTo_bd {V U : List Int} (h : Own V U) (hB : Bd U) (hU : U.length = 16) (k m i : Nat) (hm : m < 16) : 0 ≤ partTo V k m i ∧ partTo V k m i ≤ 9007199254740991 * 17 := by
  have hs : ∀ m, m ≤ 16 → 0 ≤ sumTo V k m ∧ sumTo V k m ≤ 9007199254740991 * m := by
    intro m
    induction m with
    | zero => intro _; simp [sumTo]
    | succ m ih =>
      intro hm
      have := ih (by omega)
      have := h.bd hB hU (m + 1) (by omega) hm
      simp only [sumTo]
      split <;> omega
  have := hs m (by omega)
  have := h.bd hB hU (m + 1) (by omega) (by omega)
  unfold partTo
  split <;> omega

end Go.Proofs.Ytlndpljhcempoaa
