/- The package mem (a memory of words), method by method: what each call answers and what it leaves in memory, for every memory that reads as a list of words and a count. Condition: the memory's two blocks read so. -/
import Derived.Test.YtlndpljhcempoaaBase
import Derived.RegionTactic
import Derived.BigRegion
import Derived.Deep.QuietTactic
import Derived.BigQuiet
namespace Go.Proofs.Ytlndpljhcempoaa
open Go.RowKit

/-- Words as cells. -/
def wd (ws : List Int) : List Value := ws.map (Value.int .u64)

theorem wd_get {ws : List Int} {k : Nat} (hk : k < ws.length) : (wd ws)[k]? = some (.int .u64 (ws.getD k 0)) := by
  simp [wd, hk]

theorem wd_set (ws : List Int) (k : Nat) (x : Int) : (wd ws).set k (.int .u64 x) = wd (ws.set k x) := by
  simp [wd, List.map_set]

/-- A memory: its block bm, its words' block bw, the words, the count. -/
structure MemIs (w : World) (bm bw : Nat) (ws : List Int) (cnt : Int) : Prop where
  hd : Row w bm 66 [.slice (some ⟨bw, 0, none⟩) ws.length ws.length, .int .i64 cnt]
  wr : Row w bw 29 (wd ws)
  ne : bm ≠ bw
  len : ws.length ≤ 4096

theorem MemIs.keeps {w w' : World} {bm bw : Nat} {ws : List Int} {cnt : Int} {S : List Nat} (h : MemIs w bm bw ws cnt) (hk : Keeps S w w') (h1 : bm ∉ S) (h2 : bw ∉ S) : MemIs w' bm bw ws cnt :=
  ⟨hk.row h.hd h1, hk.row h.wr h2, h.ne, h.len⟩

theorem MemIs.counted {w : World} {bm bw : Nat} {ws : List Int} {cnt : Int} (h : MemIs w bm bw ws cnt) (n : Int) : MemIs (w.setCell ⟨bm, 1, none⟩ (.int .i64 n)) bm bw ws n :=
  ⟨h.hd.set 1 _, h.wr.setOther (fun e => h.ne e.symm) _, h.ne, h.len⟩

/-- No memory: nil, or one that was never made. -/
def NoMem (w : World) (v : Value) : Prop := v = .pointer none ∨ ∃ b, v = .pointer (some ⟨b, 0, none⟩) ∧ Row w b 66 [.slice none 0 0, .int .i64 0]

theorem NoMem.keeps {w w' : World} {v : Value} {S : List Nat} (h : NoMem w v) (hk : Keeps S w w') (hS : ∀ x ∈ S, w.heap.size ≤ x) : NoMem w' v := by
  rcases h with h | ⟨b, h, hr⟩
  · exact .inl h
  · exact .inr ⟨b, h, hk.row hr (fun hb => by have := hS b hb; have := hr.lt; omega)⟩

@[go_sem] theorem eql22 (w : World) (a : Option Addr) (n c n' c' : Nat) : (binOp .eql 22 (.slice a n c) (.slice none n' c')).run Try.prog w = .ok (.bool a.isNone) w :=
  Lib.run_eql_slice_nil w _ _ a n c n' c' Try.underlying22

/-! ### access -/

set_option maxRecDepth 100000 in
set_option maxHeartbeats 400000 in
theorem access_none (w : World) (v : Value) (h : NoMem w v) (k many : Int) (f : FuncId) (cap : Array Value) :
    Calls Try.prog 75 #[v, .int .i64 k, .int .i64 many, .func (.func f) #[] cap] w fun e w' => e = .returned (.int .i64 1) ∧ w = w' := by
  rcases h with rfl | ⟨b, rfl, hr⟩
  · go_enter Try.func75, Try.ntmps75
    go_wp2
    go_ret
    exact ⟨rfl, rfl⟩
  · have hm0 := hr.cell (i := 0) rfl
    clear hr
    go_enter Try.func75, Try.ntmps75
    go_wp2
    go_ret
    exact ⟨rfl, rfl⟩

set_option maxRecDepth 100000 in
set_option maxHeartbeats 400000 in
theorem access_range (w : World) (bm bw : Nat) (ws : List Int) (cnt : Int) (h : MemIs w bm bw ws cnt) (k many : Int) (h0 : 0 ≤ many) (h1 : many ≤ 2) (hk : k < 0 ∨ ws.length - many < k) (f : FuncId) (cap : Array Value) :
    Calls Try.prog 75 #[.pointer (some ⟨bm, 0, none⟩), .int .i64 k, .int .i64 many, .func (.func f) #[] cap] w fun e w' => e = .returned (.int .i64 9) ∧ w = w' := by
  have hm0 := h.hd.cell (i := 0) rfl
  have hlen := h.len
  clear h
  by_cases hk0 : k < 0
  · go_enter Try.func75, Try.ntmps75
    go_wp2
    go_ret
    exact ⟨rfl, rfl⟩
  · have hk1 : ws.length - many < k := by omega
    clear hk
    go_enter Try.func75, Try.ntmps75
    go_wp2
    go_ret
    exact ⟨rfl, rfl⟩

set_option maxRecDepth 100000 in
set_option maxHeartbeats 400000 in
theorem access_ok (w : World) (bm bw : Nat) (ws : List Int) (cnt : Int) (h : MemIs w bm bw ws cnt) (k many : Nat) (m : Int) (hm : m = (many : Int)) (h1 : 0 < many) (hk : k + many ≤ ws.length) (f : FuncId) (hcall : ∀ args w, (callFunc f args).run Try.prog w = .ok (.enter f args) w) (cap : Array Value) (Post : World → Prop)
    (hc : Hid (∀ w1, w1 = w.setCell ⟨bm, 1, none⟩ (.int .i64 (wrap64 (cnt + 1))) → Calls Try.prog f (#[.slice (some ⟨bw, k, none⟩) many (ws.length - k)] ++ cap) w1 fun e w2 => e = .returned (.tuple #[]) ∧ Post w2)) :
    Calls Try.prog 75 #[.pointer (some ⟨bm, 0, none⟩), .int .i64 k, .int .i64 m, .func (.func f) #[] cap] w fun e w' => e = .returned (.int .i64 0) ∧ Post w' := by
  subst hm
  have hm0 := h.hd.cell (i := 0) rfl
  have hm1 := h.hd.cell (i := 1) rfl
  have hf1 := h.hd.free 1
  have hlen := h.len
  have hlt : k < ws.length := by omega
  clear h
  go_enter Try.func75, Try.ntmps75
  go_wp2_with fail
  refine (hc.out _ rfl).mono ?_
  rintro e w2 ⟨rfl, hp⟩
  have hp' := Lib.hid hp
  clear hp
  go_wp2_with fail
  go_ret
  exact ⟨rfl, hp'.out⟩

/-! ### The closures -/

set_option maxHeartbeats 400000 in
theorem load_do (w : World) (bw : Nat) (ws : List Int) (hr : Row w bw 29 (wd ws)) (k cap : Nat) (hk : k < ws.length) (c : Nat) (x : Value) (hx : Row w c 29 [x]) :
    Calls Try.prog 77 #[.slice (some ⟨bw, k, none⟩) 1 cap, .pointer (some ⟨c, 0, none⟩)] w fun e w' => e = .returned (.tuple #[]) ∧ Row w' c 29 [.int .u64 (ws.getD k 0)] ∧ Keeps [c] w w' := by
  have hwk := hr.cell (wd_get hk)
  have hc := hx.cell (i := 0) rfl
  have hf := hx.free 0
  go_enter Try.func77, Try.ntmps77
  go_wp2
  go_end0
  refine ⟨rfl, ?_, ?_⟩
  · simpa [hk] using hx.set 0 (.int .u64 (ws.getD k 0))
  · exact (Keeps.refl _ _).set (by simp) _

set_option maxHeartbeats 400000 in
theorem store_do (w : World) (bw : Nat) (ws : List Int) (hr : Row w bw 29 (wd ws)) (k cap : Nat) (hk : k < ws.length) (c : Nat) (v : Int) (hx : Row w c 29 [.int .u64 v]) :
    Calls Try.prog 78 #[.slice (some ⟨bw, k, none⟩) 1 cap, .pointer (some ⟨c, 0, none⟩)] w fun e w' => e = .returned (.tuple #[]) ∧ Row w' bw 29 (wd (ws.set k v)) ∧ Keeps [bw] w w' := by
  have hwk := hr.cell (wd_get hk)
  have hc := hx.cell (i := 0) rfl
  have hf := hr.free k
  go_enter Try.func78, Try.ntmps78
  go_wp2
  go_end0
  refine ⟨rfl, ?_, ?_⟩
  · rw [← wd_set]; exact hr.set k _
  · exact (Keeps.refl _ _).set (by simp) _

set_option maxHeartbeats 400000 in
theorem add_do (w : World) (bw : Nat) (ws : List Int) (hr : Row w bw 29 (wd ws)) (k cap : Nat) (hk : k < ws.length) (c d : Nat) (x : Value) (n : Int) (hx : Row w c 29 [x]) (hy : Row w d 29 [.int .u64 n]) (hcb : c ≠ bw) (hcd : c ≠ d) (hdb : d ≠ bw) :
    Calls Try.prog 76 #[.slice (some ⟨bw, k, none⟩) 1 cap, .pointer (some ⟨c, 0, none⟩), .pointer (some ⟨d, 0, none⟩)] w fun e w' => e = .returned (.tuple #[]) ∧ Row w' c 29 [.int .u64 (ws.getD k 0)] ∧ Row w' bw 29 (wd (ws.set k (IntKind.u64.wrap (ws.getD k 0 + n)))) ∧ Keeps [c, bw] w w' := by
  refine calls_hide fun R HR => ?_
  have hwk := hr.cell (wd_get hk)
  have hfk := hr.free k
  have hc := hx.cell (i := 0) rfl
  have hf := hx.free 0
  have hd := hy.cell (i := 0) rfl
  generalize ws.getD k 0 = y at *
  go_enter Try.func76, Try.ntmps76
  go_wp2
  go_region
  go_wp2
  go_end0
  refine HR.out _ _ ⟨rfl, ?_, ?_, ?_⟩
  · exact ((hx.set 0 _).setOther hcb _).drew
  · rw [← wd_set]; exact ((hr.setOther (Ne.symm hcb) _).set k _).drew
  · exact (((Keeps.refl _ _).set (by simp) _).set (by simp) _).drew

set_option maxHeartbeats 400000 in
theorem cas_do (w : World) (bw : Nat) (ws : List Int) (hr : Row w bw 29 (wd ws)) (k cap : Nat) (hk : k < ws.length) (a i t : Nat) (old to : Int) (x : Value) (ha : Row w a 29 [.int .u64 old]) (hi : Row w i 4 [x]) (ht : Row w t 29 [.int .u64 to]) (hib : i ≠ bw) (hia : i ≠ a) (hit : i ≠ t) :
    Calls Try.prog 80 #[.slice (some ⟨bw, k, none⟩) 1 cap, .pointer (some ⟨a, 0, none⟩), .pointer (some ⟨i, 0, none⟩), .pointer (some ⟨t, 0, none⟩)] w fun e w' => e = .returned (.tuple #[]) ∧ Row w' i 4 [.bool (ws.getD k 0 == old)] ∧ Row w' bw 29 (wd (if ws.getD k 0 = old then ws.set k to else ws)) ∧ Keeps [i, bw] w w' := by
  refine calls_hide fun R HR => ?_
  have hwk := hr.cell (wd_get hk)
  have hfk := hr.free k
  have hca := ha.cell (i := 0) rfl
  have hci := hi.cell (i := 0) rfl
  have hct := ht.cell (i := 0) rfl
  have hf := hi.free 0
  generalize ws.getD k 0 = y at *
  by_cases h : y = old
  · have hb : (y == old) = true := beq_iff_eq.2 h
    rw [hb, if_pos h] at HR
    clear h
    go_enter Try.func80, Try.ntmps80
    go_wp2
    go_region
    go_wp2
    go_end0
    refine HR.out _ _ ⟨rfl, ?_, ?_, ?_⟩
    · exact ((hi.set 0 _).setOther hib _).drew
    · rw [← wd_set]; exact ((hr.setOther (Ne.symm hib) _).set k _).drew
    · exact (((Keeps.refl _ _).set (by simp) _).set (by simp) _).drew
  · have hb : (y == old) = false := beq_eq_false_iff_ne.2 h
    rw [hb, if_neg h] at HR
    clear h
    go_enter Try.func80, Try.ntmps80
    go_wp2
    go_region
    go_wp2
    go_end0
    refine HR.out _ _ ⟨rfl, ?_, ?_, ?_⟩
    · exact (hi.set 0 _).drew
    · exact (hr.setOther (Ne.symm hib) _).drew
    · exact ((Keeps.refl _ _).set (by simp) _).drew

set_option maxHeartbeats 400000 in
theorem cas2_do (w : World) (bw : Nat) (ws : List Int) (hr : Row w bw 29 (wd ws)) (k cap : Nat) (hk : k + 1 < ws.length) (a s i t o : Nat) (old second to other : Int) (x : Value) (ha : Row w a 29 [.int .u64 old]) (hs : Row w s 29 [.int .u64 second])
    (hi : Row w i 4 [x]) (ht : Row w t 29 [.int .u64 to]) (ho : Row w o 29 [.int .u64 other]) (hib : i ≠ bw) (hia : i ≠ a) (his : i ≠ s) (hit : i ≠ t) (hio : i ≠ o) (htb : t ≠ bw) (hob : o ≠ bw) :
    Calls Try.prog 79 #[.slice (some ⟨bw, k, none⟩) 2 cap, .pointer (some ⟨a, 0, none⟩), .pointer (some ⟨s, 0, none⟩), .pointer (some ⟨i, 0, none⟩), .pointer (some ⟨t, 0, none⟩), .pointer (some ⟨o, 0, none⟩)] w
      fun e w' => e = .returned (.tuple #[]) ∧ Row w' i 4 [.bool (ws.getD k 0 == old && ws.getD (k + 1) 0 == second)] ∧ Row w' bw 29 (wd (if ws.getD k 0 = old ∧ ws.getD (k + 1) 0 = second then (ws.set k to).set (k + 1) other else ws)) ∧ Keeps [i, bw] w w' := by
  refine calls_hide fun R HR => ?_
  have hwk := hr.cell (wd_get (k := k) (by omega))
  have hwk' := hr.cell (wd_get hk)
  have hfk := hr.free k
  have hfk' := hr.free (k + 1)
  have hca := ha.cell (i := 0) rfl
  have hcs := hs.cell (i := 0) rfl
  have hci := hi.cell (i := 0) rfl
  have hct := ht.cell (i := 0) rfl
  have hco := ho.cell (i := 0) rfl
  have hf := hi.free 0
  generalize ws.getD k 0 = y at *
  generalize ws.getD (k + 1) 0 = z at *
  by_cases h : y = old ∧ z = second
  · have hb : (y == old) = true := beq_iff_eq.2 h.1
    have hb' : (z == second) = true := beq_iff_eq.2 h.2
    rw [hb, hb', if_pos h] at HR
    clear h
    go_enter Try.func79, Try.ntmps79
    go_wp2
    go_region
    go_wp2
    go_region
    go_wp2
    go_end0
    refine HR.out _ _ ⟨rfl, ?_, ?_, ?_⟩
    · exact (((hi.set 0 _).setOther hib _).setOther hib _).drew.drew
    · rw [← wd_set, ← wd_set]; exact (((hr.setOther (Ne.symm hib) _).set k _).set (k + 1) _).drew.drew
    · exact ((((Keeps.refl _ _).set (by simp) _).set (by simp) _).set (by simp) _).drew.drew
  · by_cases hy : y = old
    · have hb : (y == old) = true := beq_iff_eq.2 hy
      have hb' : (z == second) = false := beq_eq_false_iff_ne.2 (fun e => h ⟨hy, e⟩)
      rw [hb, hb', if_neg h] at HR
      clear h hy
      go_enter Try.func79, Try.ntmps79
      go_wp2
      go_region
      go_wp2
      go_end0
      refine HR.out _ _ ⟨rfl, ?_, ?_, ?_⟩
      · exact (hi.set 0 _).drew
      · exact (hr.setOther (Ne.symm hib) _).drew
      · exact ((Keeps.refl _ _).set (by simp) _).drew
    · have hb : (y == old) = false := beq_eq_false_iff_ne.2 hy
      rw [hb, if_neg h, Bool.false_and] at HR
      clear h hy
      go_enter Try.func79, Try.ntmps79
      go_wp2
      go_region
      go_wp2
      go_end0
      refine HR.out _ _ ⟨rfl, ?_, ?_, ?_⟩
      · exact (hi.set 0 _).drew
      · exact (hr.setOther (Ne.symm hib) _).drew
      · exact ((Keeps.refl _ _).set (by simp) _).drew

end Go.Proofs.Ytlndpljhcempoaa
