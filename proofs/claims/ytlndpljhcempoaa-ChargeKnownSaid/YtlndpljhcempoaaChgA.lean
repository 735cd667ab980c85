/- Counters of charges as two lists of numbers: what each call answers and leaves, in plain Lean; a counter's block; a path. No program, no condition. -/
import Derived.Test.YtlndpljhcempoaaBase
namespace Go.Proofs.Ytlndpljhcempoaa
open Go.RowKit

/-- Counters: the block b holds that it was made, what is charged (U), the limits (M). -/
structure ChgIs (w : World) (b : Nat) (U M : List Int) : Prop where
  hd : Row w b 69 (.bool true :: (U.map (.int .i64) ++ M.map (.int .i64)))
  lu : U.length = 16
  lm : M.length = 16
  fu : ∀ x ∈ U, 0 ≤ x ∧ x ≤ 9007199254740991
  fm : ∀ x ∈ M, 0 ≤ x ∧ x ≤ 9007199254740991

theorem getD_mem0 (L : List Int) (k : Nat) (h : k < L.length) : L.getD k 0 ∈ L := by
  rw [List.getD_eq_getElem?_getD, List.getElem?_eq_getElem h]
  exact List.getElem_mem h

theorem ChgIs.keeps {w w' : World} {b : Nat} {U M : List Int} {S : List Nat} (h : ChgIs w b U M) (hk : Keeps S w w') (h1 : b ∉ S) : ChgIs w' b U M := ⟨hk.row h.hd h1, h.lu, h.lm, h.fu, h.fm⟩

theorem ChgIs.made {w : World} {b : Nat} {U M : List Int} (h : ChgIs w b U M) : w.cell? ⟨b, 0, none⟩ = some (.bool true) := h.hd.cell rfl

theorem ChgIs.cu {w : World} {b : Nat} {U M : List Int} (h : ChgIs w b U M) {k : Nat} (hk : k < 16) : w.cell? ⟨b, 1 + k, none⟩ = some (.int .i64 (U.getD k 0)) := by
  refine h.hd.cell ?_
  have hu := h.lu
  rw [Nat.add_comm, List.getElem?_cons_succ, List.getElem?_append_left (by simpa [hu] using hk), List.getElem?_map, List.getD_eq_getElem?_getD, List.getElem?_eq_getElem (by omega)]
  rfl

theorem ChgIs.cm {w : World} {b : Nat} {U M : List Int} (h : ChgIs w b U M) {k : Nat} (hk : k < 16) : w.cell? ⟨b, 17 + k, none⟩ = some (.int .i64 (M.getD k 0)) := by
  refine h.hd.cell ?_
  have hu := h.lu
  have hm := h.lm
  rw [show 17 + k = (16 + k) + 1 from by omega, List.getElem?_cons_succ, List.getElem?_append_right (by simp [hu]), List.getElem?_map, List.getD_eq_getElem?_getD, List.length_map, hu, show 16 + k - 16 = k from by omega, List.getElem?_eq_getElem (by omega)]
  rfl

theorem ChgIs.bu {w : World} {b : Nat} {U M : List Int} (h : ChgIs w b U M) {k : Nat} (hk : k < 16) : 0 ≤ U.getD k 0 ∧ U.getD k 0 ≤ 9007199254740991 := h.fu _ (getD_mem0 U k (by rw [h.lu]; exact hk))
theorem ChgIs.bm {w : World} {b : Nat} {U M : List Int} (h : ChgIs w b U M) {k : Nat} (hk : k < 16) : 0 ≤ M.getD k 0 ∧ M.getD k 0 ≤ 9007199254740991 := h.fm _ (getD_mem0 M k (by rw [h.lm]; exact hk))

theorem ChgIs.setU {w : World} {b : Nat} {U M : List Int} (h : ChgIs w b U M) (k : Nat) {x : Int} (hk : k < 16) (hx : 0 ≤ x ∧ x ≤ 9007199254740991) : ChgIs (w.setCell ⟨b, 1 + k, none⟩ (.int .i64 x)) b (U.set k x) M := by
  refine ⟨?_, by simpa using h.lu, h.lm, fun y hy => ?_, h.fm⟩
  · have := h.hd.set (1 + k) (.int .i64 x)
    rw [Nat.add_comm 1 k, List.set_cons_succ, List.set_append_left _ _ (by simp [h.lu]; exact hk), ← List.map_set] at this
    rw [Nat.add_comm 1 k]
    exact this
  · rcases List.mem_or_eq_of_mem_set hy with h' | rfl
    · exact h.fu y h'
    · exact hx

theorem ChgIs.setM {w : World} {b : Nat} {U M : List Int} (h : ChgIs w b U M) (k : Nat) {x : Int} (hx : 0 ≤ x ∧ x ≤ 9007199254740991) : ChgIs (w.setCell ⟨b, 17 + k, none⟩ (.int .i64 x)) b U (M.set k x) := by
  refine ⟨?_, h.lu, by simpa using h.lm, h.fu, fun y hy => ?_⟩
  · have := h.hd.set (17 + k) (.int .i64 x)
    rw [show 17 + k = (16 + k) + 1 from by omega, List.set_cons_succ, List.set_append_right _ _ (by simp [h.lu])] at this
    rw [show 17 + k = (16 + k) + 1 from by omega]
    simp only [List.length_map, h.lu, show 16 + k - 16 = k from by omega, ← List.map_set] at this
    exact this
  · rcases List.mem_or_eq_of_mem_set hy with h' | rfl
    · exact h.fm y h'
    · exact hx

/-- A path: numbers that lie in a block that is not c. -/
def IntsAt (w : World) (c : Nat) (a : Option Addr) (zs : List Int) : Prop :=
  zs.length ≤ 9223372036854775807 ∧ (zs = [] ∨ ∃ b off, a = some ⟨b, off, none⟩ ∧ b < w.heap.size ∧ b ≠ c ∧ ∀ i, i < zs.length → w.cell? ⟨b, off + i, none⟩ = some (.int .i64 (zs.getD i 0)))

theorem IntsAt.keeps {w w' : World} {c : Nat} {a : Option Addr} {zs : List Int} {S : List Nat} (h : IntsAt w c a zs) (hk : Keeps S w w') (hS : ∀ x ∈ S, x = c ∨ w.heap.size ≤ x) : IntsAt w' c a zs := by
  obtain ⟨hl, h | ⟨b, off, ha, hb, hc, hcell⟩⟩ := h
  · exact ⟨hl, .inl h⟩
  · refine ⟨hl, .inr ⟨b, off, ha, Nat.lt_of_lt_of_le hb hk.size, hc, fun i hi => ?_⟩⟩
    refine (hk.cell (p := ⟨b, off + i, none⟩) hb (fun hbs => ?_)).trans (hcell i hi)
    have : b ∈ S := hbs
    rcases hS b this with h | h <;> omega

theorem IntsAt.at {w : World} {c : Nat} {a : Option Addr} {zs : List Int} (h : IntsAt w c a zs) {i : Nat} (hi : i < zs.length) :
    ∃ b off, a = some ⟨b, off, none⟩ ∧ b < w.heap.size ∧ b ≠ c ∧ ∀ i, i < zs.length → w.cell? ⟨b, off + i, none⟩ = some (.int .i64 (zs.getD i 0)) := by
  obtain ⟨hl, h | h⟩ := h
  · subst h; simp at hi
  · exact h

theorem IntsAt.ofRow {w : World} {c b : Nat} {t : TypeId} {zs : List Int} (h : Row w b t (zs.map (.int .i64))) (hb : b ≠ c) (hl : zs.length ≤ 9223372036854775807) : IntsAt w c (some ⟨b, 0, none⟩) zs := by
  refine ⟨hl, .inr ⟨b, 0, rfl, h.lt, hb, fun i hi => ?_⟩⟩
  rw [Nat.zero_add]
  refine h.cell ?_
  rw [List.getElem?_map, List.getD_eq_getElem?_getD, List.getElem?_eq_getElem hi]
  rfl

/-! ### What is asked -/

def allIn (zs : List Int) : Bool := zs.all fun g => decide (1 ≤ g) && decide (g ≤ 16)
/-- Does one of the first k stand among those ahead of it? -/
def dupTo (zs : List Int) : Nat → Bool
  | 0 => false
  | k + 1 => dupTo zs k || decide (zs.getD k 0 ∈ zs.take k)
def askE (zs : List Int) (n : Int) : Int :=
  if allIn zs = false then 110 else if dupTo zs zs.length = true ∨ zs.length = 0 ∨ 8 < zs.length ∨ n < 0 ∨ 9007199254740991 < n then 2 else 0
/-- Which groups stand among the first k. -/
def seenL (zs : List Int) (k : Nat) : List Bool := (List.range 16).map fun (j : Nat) => decide (((j : Int) + 1) ∈ zs.take k)

theorem seenL_zero (zs : List Int) : seenL zs 0 = List.replicate 16 false := by simp [seenL]; rfl

theorem seenL_get (zs : List Int) (k j : Nat) (hj : j < 16) : ((seenL zs k).map Value.bool)[j]? = some (.bool (decide (((j : Int) + 1) ∈ zs.take k))) := by
  simp [seenL, List.getElem?_range hj]

theorem mem_take_succ (zs : List Int) (k : Nat) (hk : k < zs.length) (x : Int) : x ∈ zs.take (k + 1) ↔ x ∈ zs.take k ∨ x = zs.getD k 0 := by
  rw [List.take_succ_eq_append_getElem hk, List.mem_append, List.mem_singleton, List.getD_eq_getElem?_getD, List.getElem?_eq_getElem hk]
  rfl

theorem seenL_succ (zs : List Int) (k j : Nat) (hk : k < zs.length) (hj : j < 16) (h : zs.getD k 0 = (j : Int) + 1) : ((seenL zs k).map Value.bool).set j (.bool true) = (seenL zs (k + 1)).map Value.bool := by
  apply List.ext_getElem?
  intro i
  rw [List.getElem?_set]
  by_cases hij : j = i
  · subst hij
    rw [if_pos rfl, seenL_get zs (k + 1) j hj, if_pos (by simpa [seenL] using hj)]
    have : ((j : Int) + 1) ∈ zs.take (k + 1) := (mem_take_succ zs k hk _).2 (.inr h.symm)
    simp [this]
  · rw [if_neg hij]
    by_cases hi : i < 16
    · rw [seenL_get zs k i hi, seenL_get zs (k + 1) i hi]
      have : (((i : Int) + 1) ∈ zs.take (k + 1)) ↔ ((i : Int) + 1) ∈ zs.take k := by
        rw [mem_take_succ zs k hk, h]
        constructor
        · rintro (h | h)
          · exact h
          · omega
        · exact .inl
      simp [this]
    · rw [List.getElem?_eq_none (by simpa [seenL] using hi), List.getElem?_eq_none (by simpa [seenL] using hi)]

theorem ask_group (zs : List Int) (n : Int) (k : Nat) (hk : k < zs.length) (h : zs.getD k 0 < 1 ∨ 16 < zs.getD k 0) : askE zs n = 110 := by
  have : allIn zs = false := by
    unfold allIn
    rw [List.all_eq_false]
    refine ⟨zs.getD k 0, getD_mem0 zs k hk, ?_⟩
    have : ¬ (1 ≤ zs.getD k 0 ∧ zs.getD k 0 ≤ 16) := by omega
    rw [← Bool.decide_and, decide_eq_true_eq]
    exact this
  unfold askE
  rw [if_pos this]

theorem all_in (zs : List Int) (h : ∀ k, k < zs.length → 1 ≤ zs.getD k 0 ∧ zs.getD k 0 ≤ 16) : allIn zs = true := by
  unfold allIn
  rw [List.all_eq_true]
  intro x hx
  obtain ⟨k, hk, rfl⟩ := List.getElem_of_mem hx
  have := h k hk
  rw [List.getD_eq_getElem?_getD, List.getElem?_eq_getElem hk] at this
  simpa using this

theorem ask_arg (zs : List Int) (n : Int) (h : allIn zs = true) (h' : dupTo zs zs.length = true ∨ zs.length = 0 ∨ 8 < zs.length ∨ n < 0 ∨ 9007199254740991 < n) : askE zs n = 2 := by
  unfold askE
  rw [if_neg (by rw [h]; simp), if_pos h']

theorem ask_ok (zs : List Int) (n : Int) (h : allIn zs = true) (h' : ¬ (dupTo zs zs.length = true ∨ zs.length = 0 ∨ 8 < zs.length ∨ n < 0 ∨ 9007199254740991 < n)) : askE zs n = 0 := by
  unfold askE
  rw [if_neg (by rw [h]; simp), if_neg h']

/-- What holds where nothing is wrong. -/
theorem ask_zero {zs : List Int} {n : Int} (h : askE zs n = 0) : (∀ k, k < zs.length → 1 ≤ zs.getD k 0 ∧ zs.getD k 0 ≤ 16) ∧ dupTo zs zs.length = false ∧ 0 < zs.length ∧ zs.length ≤ 8 ∧ 0 ≤ n ∧ n ≤ 9007199254740991 := by
  unfold askE at h
  cases ha : allIn zs with
  | false => rw [if_pos ha] at h; cases h
  | true =>
    rw [if_neg (by rw [ha]; simp)] at h
    by_cases h' : dupTo zs zs.length = true ∨ zs.length = 0 ∨ 8 < zs.length ∨ n < 0 ∨ 9007199254740991 < n
    · rw [if_pos h'] at h; cases h
    · refine ⟨fun k hk => ?_, ?_, by omega, by omega, by omega, by omega⟩
      · unfold allIn at ha
        rw [List.all_eq_true] at ha
        have := ha _ (getD_mem0 zs k hk)
        simpa using this
      · cases hd : dupTo zs zs.length with
        | false => rfl
        | true => exact absurd (.inl hd) h'

theorem ask_one (g n : Int) : askE [g] n = if g < 1 ∨ 16 < g then 110 else if n < 0 ∨ 9007199254740991 < n then 2 else 0 := by
  have hd : dupTo [g] [g].length = false := by simp [dupTo]
  by_cases h : g < 1 ∨ 16 < g
  · rw [if_pos h]; exact ask_group [g] n 0 (by simp) h
  · have ha : allIn [g] = true := all_in [g] (fun k hk => by
      have : k = 0 := by simpa using hk
      subst this
      show 1 ≤ g ∧ g ≤ 16
      omega)
    rw [if_neg h]
    by_cases hn : n < 0 ∨ 9007199254740991 < n
    · rw [if_pos hn]; exact ask_arg _ _ ha (by omega)
    · rw [if_neg hn]; exact ask_ok _ _ ha (by rw [hd]; simp; omega)

/-! ### What the calls answer and leave -/

def upE (U M : List Int) (g n : Int) : Int := if askE [g] n ≠ 0 then askE [g] n else if M.getD (g - 1).toNat 0 - U.getD (g - 1).toNat 0 < n then 120 else 0
def upU (U M : List Int) (g n : Int) : List Int := if upE U M g n ≠ 0 then U else U.set (g - 1).toNat (U.getD (g - 1).toNat 0 + n)
def downE (U : List Int) (g n : Int) : Int := if askE [g] n ≠ 0 then askE [g] n else if U.getD (g - 1).toNat 0 < n then 2 else 0
def downU (U : List Int) (g n : Int) : List Int := if downE U g n ≠ 0 then U else U.set (g - 1).toNat (U.getD (g - 1).toNat 0 - n)
def limM (M : List Int) (g n : Int) : List Int := if askE [g] n ≠ 0 then M else M.set (g - 1).toNat n
def okG (g : Int) : Bool := decide (1 ≤ g) && decide (g ≤ 16)
def usedN (U : List Int) (g : Int) : Int := if okG g then U.getD (g - 1).toNat 0 else 0

/-- The groups of a list, each by n. -/
def addAll (U : List Int) (n : Int) : List Int → List Int
  | [] => U
  | g :: gs => addAll (U.set (g - 1).toNat (U.getD (g - 1).toNat 0 + n)) n gs

end Go.Proofs.Ytlndpljhcempoaa
