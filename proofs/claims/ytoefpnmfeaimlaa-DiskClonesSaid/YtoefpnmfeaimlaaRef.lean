/- The disk of the specification in memory, and the contracts of its small methods. -/
import Derived.Test.YtoefpnmfeaimlaaDiskWrite
import Derived.Test.YtoefpnmfeaimlaaMix2
namespace Go.Proofs.Ytoefpnmfeaimlaa
open Go.RowKit Dk

/-- The blocks of a disk of the specification: the struct, the sectors. -/
structure RF where
  p : Nat
  b : Nat
def RF.blks (r : RF) : List Nat := [r.p, r.b]
def secCells (s : Sec) : List Value := [strV s.text, strV (s.next.getD []), .bool s.next.isSome, .bool s.worn]

structure RIn (w : World) (r : RF) (D : DS) (c : Array Value) (x : Int) (cap : Nat) : Prop where
  hp : w.heap[r.p]? = some (.cells #[.slice (some ⟨r.b, 0, none⟩) D.s.length cap, .bool D.off, .int .i64 x] 55 (0, 0))
  hx : leftIs x D.left
  hx2 : x ≤ 9223372036854775807
  hb : w.heap[r.b]? = some (.cells c 52 (0, 0))
  hc : ∀ i, i < D.s.length → ∀ j, j < 4 → c[i * 4 + j]? = (secCells (D.sec i))[j]?
  ok : D.ok
  one : 1 ≤ D.s.length
  few : D.s.length ≤ 4096
  pb : r.p ≠ r.b
def RAt (w : World) (r : RF) (D : DS) : Prop := ∃ c x cap, RIn w r D c x cap

theorem RAt.kept {w w' : World} {r : RF} {D : DS} (h : RAt w r D) (e : ∀ b ∈ r.blks, w'.heap[b]? = w.heap[b]?) : RAt w' r D := by
  obtain ⟨c, x, cap, h⟩ := h
  exact ⟨c, x, cap, { h with hp := (e r.p (by simp [RF.blks])).trans h.hp, hb := (e r.b (by simp [RF.blks])).trans h.hb }⟩
theorem RAt.lt {w : World} {r : RF} {D : DS} (h : RAt w r D) : ∀ b ∈ r.blks, b < w.heap.size := by
  obtain ⟨c, x, cap, h⟩ := h
  intro b hb
  simp only [RF.blks, List.mem_cons, List.not_mem_nil, or_false] at hb
  rcases hb with rfl | rfl
  · exact lt_of_heap h.hp
  · exact lt_of_heap h.hb
theorem RAt.fr {w w' : World} {r : RF} {D : DS} (h : RAt w r D) {S : List Nat} (k : Fr S w w') (hd : ∀ b ∈ r.blks, b ∉ S) : RAt w' r D :=
  h.kept fun b hb => k.block b (h.lt b hb) (hd b hb)

/-- The struct's cells. -/
theorem RIn.c0 {w : World} {r : RF} {D : DS} {c : Array Value} {x : Int} {cap : Nat} (h : RIn w r D c x cap) : w.cell? ⟨r.p, 0, none⟩ = some (.slice (some ⟨r.b, 0, none⟩) D.s.length cap) := by
  have := cell_blk h.hp 0
  simpa using this
theorem RIn.c1 {w : World} {r : RF} {D : DS} {c : Array Value} {x : Int} {cap : Nat} (h : RIn w r D c x cap) : w.cell? ⟨r.p, 1, none⟩ = some (.bool D.off) := by
  have := cell_blk h.hp 1
  simpa using this
theorem RIn.c2 {w : World} {r : RF} {D : DS} {c : Array Value} {x : Int} {cap : Nat} (h : RIn w r D c x cap) : w.cell? ⟨r.p, 2, none⟩ = some (.int .i64 x) := by
  have := cell_blk h.hp 2
  simpa using this
/-- A sector's cells. -/
theorem RIn.sec {w : World} {r : RF} {D : DS} {c : Array Value} {x : Int} {cap : Nat} (h : RIn w r D c x cap) {k : Nat} (hk : k < D.s.length) :
    w.cell? ⟨r.b, k * 4, none⟩ = some (.string ⟨(D.sec k).text.toArray⟩) ∧ w.cell? ⟨r.b, k * 4 + 1, none⟩ = some (.string ⟨((D.sec k).next.getD []).toArray⟩) ∧
      w.cell? ⟨r.b, k * 4 + 2, none⟩ = some (.bool (D.sec k).next.isSome) ∧ w.cell? ⟨r.b, k * 4 + 3, none⟩ = some (.bool (D.sec k).worn) := by
  have e0 := h.hc k hk 0 (by omega); have e1 := h.hc k hk 1 (by omega); have e2 := h.hc k hk 2 (by omega); have e3 := h.hc k hk 3 (by omega)
  refine ⟨?_, ?_, ?_, ?_⟩ <;> rw [cell_blk h.hb]
  · exact e0
  · exact e1
  · exact e2
  · exact e3

/-- A store into the struct's plain fields. -/
theorem RIn.setP {w : World} {r : RF} {D : DS} {c : Array Value} {x : Int} {cap : Nat} (h : RIn w r D c x cap) (off : Bool) (left : Option Nat) (x' : Int) (hx : leftIs x' left) (hx2 : x' ≤ 9223372036854775807) :
    RAt (putObj w r.p (.cells #[.slice (some ⟨r.b, 0, none⟩) D.s.length cap, .bool off, .int .i64 x'] 55 (0, 0))) r { D with off := off, left := left } ∧
    Fr r.blks w (putObj w r.p (.cells #[.slice (some ⟨r.b, 0, none⟩) D.s.length cap, .bool off, .int .i64 x'] 55 (0, 0))) := by
  have hlt := lt_of_heap h.hp
  refine ⟨⟨c, x', cap, { h with hp := heap_put_same _ _ _ hlt, hx := hx, hx2 := hx2, hb := ?_ }⟩, (Fr.refl _ _).putObj (.inl (by simp [RF.blks])) _⟩
  rw [heap_put_ne _ _ _ _ h.pb.symm]; exact h.hb
/-- One sector has turned. -/
theorem RIn.setSec {w : World} {r : RF} {D : DS} {c : Array Value} {x : Int} {cap : Nat} (h : RIn w r D c x cap) {k : Nat} (hk : k < D.s.length) (s : Sec) (hs : s.ok) {w' : World}
    (hp : w'.heap[r.p]? = w.heap[r.p]?) {c' : Array Value} (hb : w'.heap[r.b]? = some (.cells c' 52 (0, 0))) (hc1 : ∀ j, j < 4 → c'[k * 4 + j]? = (secCells s)[j]?) (hc2 : ∀ i, i ≠ k → ∀ j, j < 4 → c'[i * 4 + j]? = c[i * 4 + j]?) : RAt w' r (D.setSec k s) := by
  refine ⟨c', x, cap, { h with hp := ?_, hb := hb, hc := ?_, ok := ok_set h.ok hs, one := ?_, few := ?_ }⟩
  · rw [hp, h.hp, len_set]; rfl
  · intro i hi j hj
    rw [len_set] at hi
    rw [sec_set _ _ _ _ hk]
    by_cases e : i = k
    · subst e; rw [if_pos rfl]; exact hc1 j hj
    · rw [if_neg e, hc2 i e j hj]; exact h.hc i hi j hj
  · rw [len_set]; exact h.one
  · rw [len_set]; exact h.few

/-! is, Len, Up, Trip, step, Read -/
theorem rlen_any {w : World} {r : RF} {D : DS} (h : RAt w r D) :
    Calls Try.prog 52 #[.pointer (some ⟨r.p, 0, none⟩)] w fun e w' => e = .returned (.int .i64 D.s.length) ∧ w = w' := by
  obtain ⟨c, x, cap, h⟩ := h
  have h0 := h.c0
  clear h
  go_enter Try.func52, Try.ntmps52
  go_wp2
  go_ret
  exact ⟨rfl, rfl⟩
theorem rup_any {w : World} {r : RF} {D : DS} (h : RAt w r D) :
    Calls Try.prog 53 #[.pointer (some ⟨r.p, 0, none⟩)] w fun e w' => e = .returned (.bool (!D.off)) ∧ w = w' := by
  obtain ⟨c, x, cap, h⟩ := h
  have h0 := h.c1
  clear h
  go_enter Try.func53, Try.ntmps53
  go_wp2
  go_ret
  exact ⟨rfl, rfl⟩
theorem ris_any {w : World} {r : RF} {D : DS} (h : RAt w r D) (i : Int) :
    Calls Try.prog 58 #[.pointer (some ⟨r.p, 0, none⟩), .int .i64 i] w fun e w' => e = .returned (.bool (D.has i)) ∧ w = w' := by
  obtain ⟨c, x, cap, h⟩ := h
  have h0 := h.c0
  clear h
  by_cases hi : 0 ≤ i
  · have e : D.has i = decide (i < D.s.length) := by simp [DS.has, hi]
    rw [e]
    clear e
    go_enter Try.func58, Try.ntmps58
    go_wp2
    go_ret
    exact ⟨rfl, rfl⟩
  · have e : D.has i = false := has_false (fun k => hi k.1)
    rw [e]
    clear e
    have hi : i < 0 := by omega
    go_enter Try.func58, Try.ntmps58
    go_wp2
    go_ret
    exact ⟨rfl, rfl⟩
theorem rtrip_any {w : World} {r : RF} {D : DS} (h : RAt w r D) (n : Int) (hn : n ≤ 9223372036854775807) :
    Calls Try.prog 41 #[.pointer (some ⟨r.p, 0, none⟩), .int .i64 n] w fun e w' => e = .returned (.tuple #[]) ∧ RAt w' r (D.trip n) ∧ Fr r.blks w w' := by
  obtain ⟨c, x, cap, h⟩ := h
  have h0 := h.c2
  have f0 := free_blk h.hp 2
  have hs := setCell_put w r.p 2 (.int .i64 (max (-1) n)) _ _ _ h.hp
  simp at hs
  have hk : RAt (w.setCell ⟨r.p, 2, none⟩ (.int .i64 (max (-1) n))) r (D.trip n) ∧ Fr r.blks w (w.setCell ⟨r.p, 2, none⟩ (.int .i64 (max (-1) n))) := by
    rw [hs]
    exact h.setP D.off (if n < 0 then none else some n.toNat) (max (-1) n) (by
      split
      · show max (-1) n < 0; omega
      · show max (-1) n = (n.toNat : Int); omega) (by omega)
  have HK := Lib.hid hk
  clear hk hs h
  go_enter Try.func41, Try.ntmps41
  go_wp2
  · have em : max (-1) n = n := by omega
    rw [em] at HK
    go_end0
    exact ⟨rfl, HK.out⟩
  · have em : max (-1) n = -1 := by omega
    rw [em] at HK
    go_end0
    exact ⟨rfl, HK.out⟩
theorem rstep_ex {w : World} {r : RF} {D : DS} (h : RAt w r D) :
    ∃ W1, RAt W1 r D.step.1 ∧ Fr r.blks w W1 ∧ Calls Try.prog 59 #[.pointer (some ⟨r.p, 0, none⟩)] w fun e w' => e = .returned (.int .i64 D.step.2) ∧ W1 = w' := by
  obtain ⟨c, x, cap, h⟩ := h
  have h2 := h.c2
  have h1 := h.c1
  have f2 := free_blk h.hp 2
  have f1 := free_blk h.hp 1
  have hx := h.hx
  have hx2 := h.hx2
  cases hl : D.left with
  | none =>
    rw [hl] at hx
    have hx : x < 0 := hx
    have hd : D.step = (D, 0) := by simp [DS.step, hl, eOK]
    rw [hd]
    refine ⟨w, ⟨c, x, cap, h⟩, Fr.refl _ _, ?_⟩
    clear h hd hl
    go_enter Try.func59, Try.ntmps59
    go_wp2
    go_ret
    exact ⟨rfl, rfl⟩
  | some k =>
    rw [hl] at hx
    have hx : x = k := hx
    cases k with
    | zero =>
      subst hx
      have hd : D.step = ({ D with off := true, left := some 0 }, 24) := by simp [DS.step, hl, eDown]
      rw [hd]
      have hk := h.setP true (some 0) 0 rfl (by omega)
      have hs := setCell_put w r.p 1 (.bool true) _ _ _ h.hp
      simp at hs
      rw [← hs] at hk
      refine ⟨w.setCell ⟨r.p, 1, none⟩ (.bool true), hk.1, hk.2, ?_⟩
      clear h hd hl hk hs
      go_enter Try.func59, Try.ntmps59
      go_wp2
      go_ret
      exact ⟨rfl, rfl⟩
    | succ k =>
      have hd : D.step = ({ D with left := some k }, 0) := by simp [DS.step, hl, eOK]
      rw [hd]
      have hk := h.setP D.off (some k) (x - 1) (by show x - 1 = (k : Int); omega) (by omega)
      have hs := setCell_put w r.p 2 (.int .i64 (x - 1)) _ _ _ h.hp
      simp at hs
      rw [← hs] at hk
      refine ⟨w.setCell ⟨r.p, 2, none⟩ (.int .i64 (x - 1)), hk.1, hk.2, ?_⟩
      have hpos : 0 < x := by omega
      clear h hd hl hk hs hx
      go_enter Try.func59, Try.ntmps59
      go_wp2
      go_ret
      exact ⟨rfl, rfl⟩
end Go.Proofs.Ytoefpnmfeaimlaa
