/- The simulated disk of the program in memory, and the contracts of its small methods. -/
import Derived.Test.YtoefpnmfeaimlaaMem
import Derived.Test.YtoefpnmfeaimlaaProg
import Derived.Outline
import Derived.Lib.Hide
import Derived.BigQuiet
import Derived.Deep.DeepMust
namespace Go.Proofs.Ytoefpnmfeaimlaa
open Go.RowKit Dk

/-- The blocks of a disk: the struct, the contents, the pending sectors, the worn ones. -/
structure DF where
  p : Nat
  bb : Nat
  mp : Nat
  mw : Nat
def DF.blks (f : DF) : List Nat := [f.p, f.bb, f.mp, f.mw]

def leftIs (x : Int) : Option Nat → Prop
  | none => x < 0
  | some k => x = k
def aggV (t : List UInt8) : Value := .agg (byteVs t).toArray
def PendIs (D : DS) (l : List (Int × Value)) : Prop := ∀ i : Int, getM l i = if D.has i = true then (D.sec i.toNat).next.map aggV else none
def WornIs (D : DS) (l : List (Int × Value)) : Prop := ∀ i : Int, getM l i = if (D.has i && (D.sec i.toNat).worn) = true then some (.bool true) else none

structure DiskIn (w : World) (f : DF) (D : DS) (c : Array Value) (x : Int) (lp lw : List (Int × Value)) (cap : Nat) : Prop where
  hp : w.heap[f.p]? = some (.cells #[.slice (some ⟨f.bb, 0, none⟩) D.s.length cap, .map (some f.mp), .map (some f.mw), .bool D.off, .int .i64 x] 67 (0, 0))
  hx : leftIs x D.left
  hx2 : x ≤ 9223372036854775807
  hb : w.heap[f.bb]? = some (.cells c 70 (0, 0))
  hc : ∀ i, i < D.s.length → ∀ j, j < 64 → c[i * 64 + j]? = (byteVs (D.sec i).text)[j]?
  hm : MapI w f.mp lp
  hpend : PendIs D lp
  hw : MapI w f.mw lw
  hworn : WornIs D lw
  ok : D.ok
  one : 1 ≤ D.s.length
  few : D.s.length ≤ 4096
  pb : f.p ≠ f.bb
  pm : f.p ≠ f.mp
  pw : f.p ≠ f.mw
  bm : f.bb ≠ f.mp
  bw : f.bb ≠ f.mw
  mw : f.mp ≠ f.mw

def DiskAt (w : World) (f : DF) (D : DS) : Prop := ∃ c x lp lw cap, DiskIn w f D c x lp lw cap

theorem MapI.kept {w w' : World} {m : Nat} {l : List (Int × Value)} (h : MapI w m l) (e : w'.heap[m]? = w.heap[m]?) : MapI w' m l := by
  obtain ⟨es, k, hb, r⟩ := h
  exact ⟨es, k, e.trans hb, r⟩
theorem MapI.lt {w : World} {m : Nat} {l : List (Int × Value)} (h : MapI w m l) : m < w.heap.size := by
  obtain ⟨es, k, hb, _⟩ := h
  exact lt_of_heap hb

theorem DiskAt.kept {w w' : World} {f : DF} {D : DS} (h : DiskAt w f D) (e : ∀ b ∈ f.blks, w'.heap[b]? = w.heap[b]?) : DiskAt w' f D := by
  obtain ⟨c, x, lp, lw, cap, h⟩ := h
  have e1 := e f.p (by simp [DF.blks]); have e2 := e f.bb (by simp [DF.blks]); have e3 := e f.mp (by simp [DF.blks]); have e4 := e f.mw (by simp [DF.blks])
  exact ⟨c, x, lp, lw, cap, { h with hp := e1.trans h.hp, hb := e2.trans h.hb, hm := h.hm.kept e3, hw := h.hw.kept e4 }⟩
theorem DiskAt.lt {w : World} {f : DF} {D : DS} (h : DiskAt w f D) : ∀ b ∈ f.blks, b < w.heap.size := by
  obtain ⟨c, x, lp, lw, cap, h⟩ := h
  intro b hb
  simp only [DF.blks, List.mem_cons, List.not_mem_nil, or_false] at hb
  rcases hb with rfl | rfl | rfl | rfl
  · exact lt_of_heap h.hp
  · exact lt_of_heap h.hb
  · exact h.hm.lt
  · exact h.hw.lt
theorem DiskAt.fr {w w' : World} {f : DF} {D : DS} (h : DiskAt w f D) {S : List Nat} (k : Fr S w w') (hd : ∀ b ∈ f.blks, b ∉ S) : DiskAt w' f D :=
  h.kept fun b hb => k.block b (h.lt b hb) (hd b hb)

/-! The closed facts on the types. -/
theorem zeroB : ∃ v : Array Value, (∀ w : World, (zeroValue 70).run Try.prog w = .ok (.agg v) w) ∧ v.size = 64 ∧ v.all (·.oneCell') = true := by
  refine ⟨(List.replicate 64 (Value.int .u8 0)).toArray, (zero_of_info (P := Try.prog) (n := 64) (by kernel_rfl)).1, by simp, by decide +kernel⟩
theorem zeroW (w : World) : (zeroValue 4).run Try.prog w = .ok (.bool false) w := by kernel_rfl
theorem sizeB : (Try.prog.info? 70).map (·.size) = some 64 := by kernel_rfl

/-! Len, Up, Trip -/
theorem len_any {w : World} {f : DF} {D : DS} (h : DiskAt w f D) :
    Calls Try.prog 30 #[.pointer (some ⟨f.p, 0, none⟩)] w fun e w' => e = .returned (.int .i64 D.s.length) ∧ w = w' := by
  obtain ⟨c, x, lp, lw, cap, h⟩ := h
  have h0 := cell_blk h.hp 0
  simp at h0
  clear h
  go_enter Try.func30, Try.ntmps30
  go_wp2
  go_ret
  exact ⟨rfl, rfl⟩
theorem up_any {w : World} {f : DF} {D : DS} (h : DiskAt w f D) :
    Calls Try.prog 25 #[.pointer (some ⟨f.p, 0, none⟩)] w fun e w' => e = .returned (.bool (!D.off)) ∧ w = w' := by
  obtain ⟨c, x, lp, lw, cap, h⟩ := h
  have h0 := cell_blk h.hp 3
  simp at h0
  clear h
  go_enter Try.func25, Try.ntmps25
  go_wp2
  go_ret
  exact ⟨rfl, rfl⟩

theorem trip_any {w : World} {f : DF} {D : DS} (h : DiskAt w f D) (n : Int) (hn : n ≤ 9223372036854775807) :
    Calls Try.prog 29 #[.pointer (some ⟨f.p, 0, none⟩), .int .i64 n] w fun e w' => e = .returned (.tuple #[]) ∧ DiskAt w' f (D.trip n) ∧ Fr f.blks w w' := by
  obtain ⟨c, x, lp, lw, cap, h⟩ := h
  have h0 := cell_blk h.hp 4
  have f0 := free_blk h.hp 4
  have hs := setCell_put w f.p 4 (.int .i64 n) _ _ _ h.hp
  simp at h0 hs
  have hk : DiskAt (w.setCell ⟨f.p, 4, none⟩ (.int .i64 n)) f (D.trip n) ∧ Fr f.blks w (w.setCell ⟨f.p, 4, none⟩ (.int .i64 n)) := by
    rw [hs]
    have hlt := lt_of_heap h.hp
    refine ⟨⟨c, n, lp, lw, cap, { h with hp := heap_put_same _ _ _ hlt, hx := ?_, hx2 := hn, hb := ?_, hm := ?_, hw := ?_ }⟩, (Fr.refl _ _).putObj (.inl (by simp [DF.blks])) _⟩
    · show leftIs n (if n < 0 then none else some n.toNat)
      split
      · assumption
      · show n = (n.toNat : Int); omega
    · rw [heap_put_ne _ _ _ _ h.pb.symm]; exact h.hb
    · exact h.hm.kept (heap_put_ne _ _ _ _ h.pm.symm)
    · exact h.hw.kept (heap_put_ne _ _ _ _ h.pw.symm)
  have HK := Lib.hid hk
  clear hk hs h
  go_enter Try.func29, Try.ntmps29
  go_wp2
  go_end0
  exact ⟨rfl, HK.out⟩

theorem check_any {w : World} {f : DF} {D : DS} (h : DiskAt w f D) (i : Int) :
    Calls Try.prog 31 #[.pointer (some ⟨f.p, 0, none⟩), .int .i64 i] w fun e w' => e = .returned (.int .i64 (D.check i)) ∧ w = w' := by
  obtain ⟨c, x, lp, lw, cap, h⟩ := h
  have h0 := cell_blk h.hp 3
  have h1 := cell_blk h.hp 0
  simp at h0 h1
  clear h
  cases ho : D.off with
  | true =>
    have hf : D.check i = 24 := by simp [DS.check, ho, eDown]
    rw [ho] at h0; rw [hf]
    clear ho hf
    go_enter Try.func31, Try.ntmps31
    go_wp2
    go_ret
    exact ⟨rfl, rfl⟩
  | false =>
    rw [ho] at h0
    by_cases hi : 0 ≤ i ∧ i < D.s.length
    · have hf : D.check i = 0 := by simp [DS.check, ho, has_true hi.1 hi.2, eOK]
      rw [hf]
      obtain ⟨hi1, hi2⟩ := hi
      clear ho hf
      go_enter Try.func31, Try.ntmps31
      go_wp2
      go_ret
      exact ⟨rfl, rfl⟩
    · have hf : D.check i = 1 := by
        simp [DS.check, ho, has_false hi, eArg]
      rw [hf]
      clear ho hf
      by_cases hi0 : i < 0
      · clear hi
        go_enter Try.func31, Try.ntmps31
        go_wp2
        go_ret
        exact ⟨rfl, rfl⟩
      · have hi1 : (D.s.length : Int) ≤ i := by omega
        have hi2 : 0 ≤ i := by omega
        clear hi hi0
        go_enter Try.func31, Try.ntmps31
        go_wp2
        go_ret
        exact ⟨rfl, rfl⟩
end Go.Proofs.Ytoefpnmfeaimlaa
