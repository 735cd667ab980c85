/- The package charge: the call that Try defers, and the calls that a refused Try takes back. Condition: the blocks read so. -/
import Derived.Test.YtlndpljhcempoaaChgN
import Derived.Defers
namespace Go.Proofs.Ytlndpljhcempoaa
open Go.RowKit

theorem callsD_hide {P : Program} {f : FuncId} {args : Array Value} {u : FrameMode} {w : World} {Q : Ending → World → Prop}
    (h : ∀ R : Ending → World → Prop, Hid (∀ e w', Q e w' → R e w') → CallsD P f args u w fun e u' w' => u' = u ∧ R e w') : CallsD P f args u w fun e u' w' => u' = u ∧ Q e w' :=
  h Q (Lib.hid fun _ _ h => h)

set_option maxRecDepth 100000 in
set_option maxHeartbeats 400000 in
theorem undo_not (w : World) (u : FrameMode) (x y z : Value) (f : Addr) (hf : w.cell? f = some (.bool false)) :
    CallsD Try.prog 88 #[.pointer (some f), x, y, z] u w fun e u' w' => u' = u ∧ (e = .returned (.tuple #[]) ∧ w = w') := by
  refine callsD_hide fun R HR => ?_
  go_enter_d Try.func88, Try.ntmps88
  go_wp2
  try go_end0
  exact HR.out _ _ ⟨rfl, rfl⟩

set_option maxRecDepth 100000 in
set_option maxHeartbeats 400000 in
theorem undo_one (w : World) (u : FrameMode) (b : Nat) (U M : List Int) (h : ChgIs w b U M) (f p q r : Addr) (k : Nat) (n : Int) (hk : k < 16) (hf : w.cell? f = some (.bool true)) (hp : w.cell? p = some (.pointer (some ⟨b, 0, none⟩)))
    (hq : w.cell? q = some (.int .i64 ((k : Int) + 1))) (hr : w.cell? r = some (.int .i64 n)) (hb : 0 ≤ U.getD k 0 - n ∧ U.getD k 0 - n ≤ 9007199254740991) :
    CallsD Try.prog 88 #[.pointer (some f), .pointer (some p), .pointer (some q), .pointer (some r)] u w fun e u' w' => u' = u ∧ (e = .returned (.tuple #[]) ∧ ChgIs w' b (U.set k (U.getD k 0 - n)) M ∧ Keeps [b] w w') := by
  refine callsD_hide fun R HR => ?_
  have hset := Lib.hid (fun (w' : World) (hw : ChgIs w' b U M) => hw.setU k (x := U.getD k 0 - n) hk)
  have c1 := h.cu hk
  have b1 := h.bu hk
  have fr := h.hd.free (1 + k)
  have hi : 0 ≤ (k : Int) ∧ (k : Int) < 16 := by omega
  generalize U.getD k 0 = x at *
  go_enter_d Try.func88, Try.ntmps88
  go_wp2
  go_region
  go_wp2
  try go_end0
  exact HR.out _ _ ⟨rfl, hset.out _ (h.keeps ((Keeps.refl [] _).drew) (by simp)) hb, ((Keeps.refl [b] _).drew).set (.inl (by simp)) _⟩

/-! ### All that was charged on the way -/

/-- What is charged behind the first i groups of the path. -/
def chgTo (U zs : List Int) (n : Int) : Nat → List Int
  | 0 => U
  | i + 1 => (chgTo U zs n i).set (zs.getD i 0 - 1).toNat ((chgTo U zs n i).getD (zs.getD i 0 - 1).toNat 0 + n)

theorem chgTo_len (U zs : List Int) (n : Int) (i : Nat) : (chgTo U zs n i).length = U.length := by
  induction i with
  | zero => rfl
  | succ i ih => simp only [chgTo, List.length_set]; exact ih

theorem set_back (L : List Int) (k : Nat) (n : Int) (hk : k < L.length) : (L.set k (L.getD k 0 + n)).set k ((L.set k (L.getD k 0 + n)).getD k 0 - n) = L := by
  have e : (L.set k (L.getD k 0 + n)).getD k 0 = L.getD k 0 + n := by
    rw [List.getD_eq_getElem?_getD, List.getElem?_set_self hk]; rfl
  rw [e, List.set_set, show L.getD k 0 + n - n = L.getD k 0 from by omega]
  apply List.ext_getElem?
  intro i
  rw [List.getElem?_set]
  by_cases h : k = i
  · subst h
    rw [if_pos rfl, if_pos hk, List.getD_eq_getElem?_getD, List.getElem?_eq_getElem hk]
    rfl
  · rw [if_neg h]

/-- Numbers from nought to the greatest. -/
def Bd (L : List Int) : Prop := ∀ x ∈ L, 0 ≤ x ∧ x ≤ 9007199254740991

/-- The groups that the deferred calls have captured, the last one first. -/
def Caps (w : World) (b : Nat) (zs : List Int) : List Nat → Prop
  | [] => True
  | B :: bs => w.cell? ⟨B, 0, none⟩ = some (.int .i64 (zs.getD bs.length 0)) ∧ B ≠ b ∧ B < w.heap.size ∧ Caps w b zs bs

theorem Caps.keeps {w w' : World} {b : Nat} {zs : List Int} {S : List Nat} (hk : Keeps S w w') (hS : ∀ x ∈ S, x = b ∨ w.heap.size ≤ x) : ∀ bs, Caps w b zs bs → Caps w' b zs bs
  | [], _ => trivial
  | B :: bs, ⟨h1, h2, h3, h4⟩ =>
    ⟨(hk.cell (p := ⟨B, 0, none⟩) h3 (fun hb => by
      have hb : B ∈ S := hb
      rcases hS B hb with h | h <;> omega)).trans h1, h2, Nat.lt_of_lt_of_le h3 hk.size, Caps.keeps hk hS bs h4⟩

/-- The deferred calls. -/
def dfs (pf pc pn : Nat) (bs : List Nat) : List Deferred :=
  bs.map fun B => { target := Target.fn (Fn.func 88) #[.pointer (some ⟨pf, 0, none⟩), .pointer (some ⟨pc, 0, none⟩), .pointer (some ⟨B, 0, none⟩), .pointer (some ⟨pn, 0, none⟩)], args := #[] }

/-- Nothing is taken back where none was refused. -/
theorem leaves_not {fn : Func} {tmps : Array Value} {R : Ending → World → Prop} (pf pc pn : Nat) (w : World) (hf : w.cell? ⟨pf, 0, none⟩ = some (.bool false)) {v : Value} (hres : (results fn tmps).run Try.prog w = .ok v w) (hR : R (.returned v) w) :
    ∀ bs, Leaves Try.prog fn tmps R (dfs pf pc pn bs) .returning w
  | [] => ⟨v, hres, hR⟩
  | B :: bs => by
    refine leaves_cons (f := 88) (args := #[.pointer (some ⟨pf, 0, none⟩), .pointer (some ⟨pc, 0, none⟩), .pointer (some ⟨B, 0, none⟩), .pointer (some ⟨pn, 0, none⟩)]) (by simp) (by simp [go_sem]) ?_
    refine (undo_not w _ _ _ _ _ hf).mono ?_
    rintro e u' w'' ⟨rfl, rfl, rfl⟩
    exact leaves_not pf pc pn w hf hres hR bs

/-- All is taken back where one was refused. -/
theorem leaves_undo {fn : Func} {tmps : Array Value} {R : Ending → World → Prop} (pf pc pn b : Nat) (U M zs : List Int) (n : Int) {v : Value} (hres : ∀ w, (results fn tmps).run Try.prog w = .ok v w)
    (hz : ∀ i, i < zs.length → 1 ≤ zs.getD i 0 ∧ zs.getD i 0 ≤ 16) (hU : U.length = 16) (hpf : pf ≠ b) (hpc : pc ≠ b) (hpn : pn ≠ b) :
    ∀ (bs : List Nat) (w : World), bs.length ≤ zs.length → (∀ j, j ≤ bs.length → Bd (chgTo U zs n j)) → ChgIs w b (chgTo U zs n bs.length) M → w.cell? ⟨pf, 0, none⟩ = some (.bool true) → w.cell? ⟨pc, 0, none⟩ = some (.pointer (some ⟨b, 0, none⟩)) →
      w.cell? ⟨pn, 0, none⟩ = some (.int .i64 n) → pf < w.heap.size → pc < w.heap.size → pn < w.heap.size → Caps w b zs bs → (∀ w', ChgIs w' b U M → Keeps [b] w w' → R (.returned v) w') → Leaves Try.prog fn tmps R (dfs pf pc pn bs) .returning w
  | [], w, _, _, hc, _, _, _, _, _, _, _, hR => ⟨v, hres w, hR w hc (Keeps.refl _ _)⟩
  | B :: bs, w, hl, hbd, hc, c1, c2, c3, l1, l2, l3, ⟨d1, d2, d3, d4⟩, hR => by
    have hlt : bs.length < zs.length := by simp at hl; omega
    obtain ⟨k, hk, hk16⟩ : ∃ k : Nat, zs.getD bs.length 0 = (k : Int) + 1 ∧ k < 16 := ⟨(zs.getD bs.length 0 - 1).toNat, by have := hz _ hlt; omega, by have := hz _ hlt; omega⟩
    have hlen : k < (chgTo U zs n bs.length).length := by rw [chgTo_len, hU]; exact hk16
    have hst : chgTo U zs n (B :: bs).length = (chgTo U zs n bs.length).set k ((chgTo U zs n bs.length).getD k 0 + n) := by
      show chgTo U zs n (bs.length + 1) = _
      simp only [chgTo]
      rw [hk, toNat_sub_one]
    rw [hst] at hc
    rw [hk] at d1
    have hbk := set_back (chgTo U zs n bs.length) k n hlen
    have hb0 := hbd bs.length (by simp) _ (getD_mem0 _ k hlen)
    have e : ((chgTo U zs n bs.length).set k ((chgTo U zs n bs.length).getD k 0 + n)).getD k 0 = (chgTo U zs n bs.length).getD k 0 + n := by
      rw [List.getD_eq_getElem?_getD, List.getElem?_set_self hlen]; rfl
    refine leaves_cons (f := 88) (args := #[.pointer (some ⟨pf, 0, none⟩), .pointer (some ⟨pc, 0, none⟩), .pointer (some ⟨B, 0, none⟩), .pointer (some ⟨pn, 0, none⟩)]) (by simp) (by simp [go_sem]) ?_
    refine (undo_one w _ b _ M hc _ _ _ _ k n hk16 c1 c2 d1 c3 (by rw [e]; omega)).mono ?_
    rintro e u' w'' ⟨rfl, rfl, hc', hkk⟩
    rw [hbk] at hc'
    refine leaves_undo pf pc pn b U M zs n hres hz hU hpf hpc hpn bs w'' (by omega) (fun j hj => hbd j (by simp; omega)) hc' ?_ ?_ ?_ (Nat.lt_of_lt_of_le l1 hkk.size) (Nat.lt_of_lt_of_le l2 hkk.size) (Nat.lt_of_lt_of_le l3 hkk.size) (Caps.keeps hkk (by simp) bs d4) (fun w' h1 h2 => hR w' h1 (hkk.trans h2 (by simp)))
    · exact (hkk.cell (p := ⟨pf, 0, none⟩) l1 (by simpa using hpf)).trans c1
    · exact (hkk.cell (p := ⟨pc, 0, none⟩) l2 (by simpa using hpc)).trans c2
    · exact (hkk.cell (p := ⟨pn, 0, none⟩) l3 (by simpa using hpn)).trans c3

end Go.Proofs.Ytlndpljhcempoaa
