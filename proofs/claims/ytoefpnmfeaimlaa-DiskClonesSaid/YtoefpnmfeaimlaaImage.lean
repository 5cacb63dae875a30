/- The contract of Image. -/
import Derived.Test.YtoefpnmfeaimlaaFlush
import Derived.Carry
namespace Go.Proofs.Ytoefpnmfeaimlaa
open Go.RowKit Dk

/-- The value v is a slice that holds the texts l; its block is none of S. -/
def StrsIn (w : World) (S : List Nat) (v : Value) (l : List (List UInt8)) : Prop :=
  (l = [] ∧ ∃ a cap, v = .slice a 0 cap) ∨ ∃ b o cap, v = .slice (some ⟨b, o, none⟩) l.length cap ∧ b ∉ S ∧ ∀ j x, l[j]? = some x → w.cell? ⟨b, o + j, none⟩ = some (strV x)
theorem StrsIn.fr {w w' : World} {S : List Nat} {v : Value} {l : List (List UInt8)} (h : StrsIn w S v l) (k : Fr S w w') : StrsIn w' S v l := by
  rcases h with h | ⟨b, o, cap, hv, hb, hc⟩
  · exact .inl h
  · refine .inr ⟨b, o, cap, hv, hb, fun j x hx => ?_⟩
    have := hc j x hx
    rw [← this]
    exact World.cell?_of_block (w := w) (k.block b (lt_of_cell this) hb)
theorem StrsIn.cells {w : World} {S : List Nat} {v : Value} {l : List (List UInt8)} (h : StrsIn w S v l) : ∃ a cap, v = .slice a l.length cap := by
  rcases h with ⟨rfl, a, cap, h⟩ | ⟨b, o, cap, h, _⟩
  · exact ⟨a, cap, h⟩
  · exact ⟨_, _, h⟩
theorem StrsIn.place {w : World} {S : List Nat} {v : Value} {l : List (List UInt8)} (h : StrsIn w S v l) (hne : l ≠ []) : ∃ b o cap, v = .slice (some ⟨b, o, none⟩) l.length cap := by
  rcases h with ⟨rfl, _⟩ | ⟨b, o, cap, h, _⟩
  · exact absurd rfl hne
  · exact ⟨_, _, _, h⟩
theorem StrsIn.at {w : World} {S : List Nat} {l : List (List UInt8)} {b o n cap : Nat} (h : StrsIn w S (.slice (some ⟨b, o, none⟩) n cap) l) {j : Nat} {x : List UInt8} (hx : l[j]? = some x) : w.cell? ⟨b, o + j, none⟩ = some (strV x) := by
  rcases h with ⟨rfl, _⟩ | ⟨b', o', cap', h, _, hc⟩
  · simp at hx
  · cases h; exact hc j x hx
/-- .. in a block of the call's own. -/
def StrsAt (w : World) (base : Nat) (v : Value) (l : List (List UInt8)) : Prop := ∃ b cap, v = .slice (some ⟨b, 0, none⟩) l.length cap ∧ base ≤ b ∧ ∀ j x, l[j]? = some x → w.cell? ⟨b, 0 + j, none⟩ = some (strV x)
theorem StrsAt.inn {w : World} {base : Nat} {v : Value} {l : List (List UInt8)} (h : StrsAt w base v l) {S : List Nat} (hS : ∀ b ∈ S, b < base) : StrsIn w S v l := by
  obtain ⟨b, cap, hv, hb, hc⟩ := h
  exact .inr ⟨b, 0, cap, hv, fun hm => by have := hS b hm; omega, hc⟩

theorem infoS : (Try.prog.info? 9).map (fun i => (i.zero, i.size, i.bytes)) = some (some (strV []), 1, 16) := by kernel_rfl

set_option maxHeartbeats 400000 in
set_option maxRecDepth 100000 in
theorem image_any {w : World} {f : DF} {D : DS} (h : DiskAt w f D) :
    Calls Try.prog 10 #[.pointer (some ⟨f.p, 0, none⟩)] w fun e w' => ∃ v, e = .returned v ∧ StrsAt w' w.heap.size v D.image ∧ Below w.heap.size w w' := by
  have hD := h
  obtain ⟨c, x, lp, lw, cap, h⟩ := h
  have h0 := cell_blk h.hp 0
  simp at h0
  have hpl := lt_of_heap h.hp
  have hbl := lt_of_heap h.hb
  have hfew := h.few
  have HDI := Lib.hid h
  clear h hD
  cases hi : Try.prog.info? 9 with
  | none => have := infoS; rw [hi] at this; cases this
  | some i =>
  have hib := infoS
  rw [hi] at hib
  simp only [Option.map_some, Option.some.injEq, Prod.mk.injEq] at hib
  obtain ⟨hz, hsz, hby⟩ := hib
  have hmk := run_makeSlice (P := Try.prog) w 27 9 i _ Try.underlying27 hi hz .i64 .i64 D.s.length D.s.length (by omega) (Int.le_refl _) (by rw [hsz]; omega) (by rw [hby]; omega) (by omega)
  rw [hsz] at hmk
  simp only [Int.toNat_natCast, Nat.mul_one] at hmk
  have hzs : (madeCells (strV []).cells D.s.length).size = D.s.length := size_madeCells _ _
  generalize madeCells (strV []).cells D.s.length = zc at hmk hzs
  clear hi hz hsz hby
  have HZS := Lib.hid hzs
  clear hzs
  go_enter Try.func10, Try.ntmps10
  go_wp2
  go_loopw [16] (fun iv wr => ∃ (j : Nat) (cs : Array Value), j ≤ D.s.length ∧ iv = .int .i64 j ∧ wr.heap[w.heap.size]? = some (.cells cs 9 (0, 0)) ∧ cs.size = D.s.length ∧ (∀ i, i < j → cs[i]? = some (strV (D.sec i).text)) ∧ Below w.heap.size w wr) (fun iv _ => D.s.length - (intOf iv).toNat)
  case atStart => exact ⟨0, zc, Nat.zero_le _, rfl, heap_alloc_last _ _, HZS.out, by omega, (Below.refl _ _).alloc (Nat.le_refl _) _⟩
  case round =>
    obtain ⟨j, cs, hj, rfl, hg, hcs, hdone, hb⟩ := hrel
    have h0r : wr.cell? ⟨f.p, 0, none⟩ = some (.slice (some ⟨f.bb, 0, none⟩) D.s.length cap) := (hb.cell (p := ⟨f.p, 0, none⟩) hpl).trans h0
    by_cases hlt : j < D.s.length
    · have hj4 : (j : Int) < 4096 := by omega
      have hj5 : (j : Int) < D.s.length := by omega
      have HR := Lib.hid (range_kept (hb.block f.bb hbl) (range_text HDI.out hlt))
      have HT := Lib.hid (sec_ok HDI.out.ok hlt).1
      obtain ⟨old, hold⟩ : ∃ old, wr.cell? ⟨w.heap.size, j, none⟩ = some old := ⟨_, by rw [cell_blk hg]; exact Array.getElem?_eq_getElem (by omega)⟩
      have hfree := free_blk hg j
      have hput := setCell_put wr w.heap.size j (strV (D.sec j).text) cs _ _ hg
      have HG := Lib.hid hg
      have HC := Lib.hid hcs
      have HD := Lib.hid hdone
      have HB := Lib.hid hb
      have HP := Lib.hid hput
      have hgl := lt_of_heap hg
      clear hg hcs hdone hb hput
      go_wp2_with (refine wpList_bytesStr rfl 68 9 5 _ rfl Try.underlying68 Try.underlying5 Try.underlying9 f.bb (j * 64) 64 64 rfl (D.sec j).text HT.out HR.out ?_; unfold strV)
      go_roundw
      case rel =>
        have hput : wr.setCell ⟨w.heap.size, j, none⟩ (.string ⟨(D.sec j).text.toArray⟩) = _ := HP.out
        refine ⟨j + 1, cs.setIfInBounds j (strV (D.sec j).text), by omega, by go_num, ?_, by simp [HC.out], ?_, HB.out.setCell (p := ⟨w.heap.size, j, none⟩) (Nat.le_refl _) _⟩
        · rw [hput]; exact heap_put_same _ _ _ hgl
        · intro i hi
          rw [Array.getElem?_setIfInBounds]
          by_cases e : j = i
          · subst e; rw [if_pos rfl, if_pos (by rw [HC.out]; exact hlt)]
          · rw [if_neg e]; exact HD.out i (by omega)
      case measure => simp [intOf]; omega
    · obtain rfl : j = D.s.length := by omega
      have HG := Lib.hid hg
      have HD := Lib.hid hdone
      have HB := Lib.hid hb
      clear hg hcs hdone hb hj
      go_wp2
      go_ret
      refine ⟨_, rfl, ⟨w.heap.size, D.s.length, by simp [DS.image], Nat.le_refl _, fun j x hx => ?_⟩, HB.out⟩
      have hx' : (D.s.map (·.text))[j]? = some x := hx
      rw [List.getElem?_map] at hx'
      have hj : j < D.s.length := by
        have := (List.getElem?_eq_some_iff.1 hx).1
        simpa [DS.image] using this
      rw [Nat.zero_add, cell_blk HG.out, HD.out j hj]
      rw [List.getElem?_eq_getElem hj] at hx'
      simp only [Option.map_some, Option.some.injEq] at hx'
      subst hx'
      simp [DS.sec, List.getD, hj]
end Go.Proofs.Ytoefpnmfeaimlaa
