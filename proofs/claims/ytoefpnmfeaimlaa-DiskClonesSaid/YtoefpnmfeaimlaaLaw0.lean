/- full and SameTexts. -/
import Derived.Test.YtoefpnmfeaimlaaImage
import Derived.Test.YtoefpnmfeaimlaaRegs
namespace Go.Proofs.Ytoefpnmfeaimlaa
open Go.RowKit Dk

theorem info8 : (Try.prog.info? 5).map (fun i => (i.zero, i.size, i.bytes)) = some (some (.int .u8 0), 1, 1) := by kernel_rfl

set_option maxHeartbeats 400000 in
set_option maxRecDepth 100000 in
theorem full_any {w : World} (n : Int) (c : UInt8) (hn : n = c.toNat) :
    Calls Try.prog 13 #[.int .u8 n] w fun e w' => e = .returned (strV (List.replicate 64 c)) ∧ Below w.heap.size w w' := by
  cases hi : Try.prog.info? 5 with
  | none => have := info8; rw [hi] at this; cases this
  | some i =>
  have hib := info8
  rw [hi] at hib
  simp only [Option.map_some, Option.some.injEq, Prod.mk.injEq] at hib
  obtain ⟨hz, hsz, hby⟩ := hib
  have hmk := run_makeSlice (P := Try.prog) w 68 5 i _ Try.underlying68 hi hz .i64 .i64 64 64 (by omega) (by omega) (by rw [hsz]; omega) (by rw [hby]; omega) (by omega)
  rw [hsz] at hmk
  simp only [Nat.mul_one] at hmk
  have h64 : (64 : Int).toNat = 64 := rfl
  rw [h64] at hmk
  have hzs : (madeCells (Value.int .u8 0).cells 64).size = 64 := size_madeCells _ _
  generalize madeCells (Value.int .u8 0).cells 64 = zc at hmk hzs
  clear hi hz hsz hby h64
  have HZS := Lib.hid hzs
  have HN := Lib.hid hn
  clear hzs hn
  go_enter Try.func13, Try.ntmps13
  go_wp2
  go_loopw [4] (fun iv wr => ∃ (j : Nat) (cs : Array Value), j ≤ 64 ∧ iv = .int .i64 j ∧ wr.heap[w.heap.size]? = some (.cells cs 5 (0, 0)) ∧ cs.size = 64 ∧ (∀ i, i < j → cs[i]? = some (.int .u8 n)) ∧ Below w.heap.size w wr) (fun iv _ => 64 - (intOf iv).toNat)
  case atStart => exact ⟨0, zc, by omega, rfl, heap_alloc_last _ _, HZS.out, by omega, (Below.refl _ _).alloc (Nat.le_refl _) _⟩
  case round =>
    obtain ⟨j, cs, hj, rfl, hg, hcs, hdone, hb⟩ := hrel
    by_cases hlt : j < 64
    · have hj5 : (j : Int) < 64 := by omega
      obtain ⟨old, hold⟩ : ∃ old, wr.cell? ⟨w.heap.size, j, none⟩ = some old := ⟨_, by rw [cell_blk hg]; exact Array.getElem?_eq_getElem (by omega)⟩
      have hfree := free_blk hg j
      have hput := setCell_put wr w.heap.size j (.int .u8 n) cs _ _ hg
      have HC := Lib.hid hcs
      have HD := Lib.hid hdone
      have HB := Lib.hid hb
      have HP := Lib.hid hput
      have hgl := lt_of_heap hg
      clear hg hcs hdone hb hput
      go_wp2
      go_roundw
      case rel =>
        refine ⟨j + 1, cs.setIfInBounds j (.int .u8 n), by omega, by go_num, ?_, by simp [HC.out], ?_, HB.out.setCell (p := ⟨w.heap.size, j, none⟩) (Nat.le_refl _) _⟩
        · rw [HP.out]; exact heap_put_same _ _ _ hgl
        · intro i hi
          rw [Array.getElem?_setIfInBounds]
          by_cases e : j = i
          · subst e; rw [if_pos rfl, if_pos (by rw [HC.out]; exact hlt)]
          · rw [if_neg e]; exact HD.out i (by omega)
      case measure => simp [intOf]; omega
    · obtain rfl : j = 64 := by omega
      have HB := Lib.hid hb
      have hr : wr.rangeAt w.heap.size 0 (byteVs (List.replicate 64 c)) := range_of_block hg (fun i hi => by
        rw [byteVs_length, List.length_replicate] at hi
        rw [Nat.zero_add, hdone i hi, HN.out]
        unfold byteVs
        rw [List.map_replicate, List.getElem?_replicate, if_pos hi]
        rfl)
      have HR := Lib.hid hr
      clear hg hcs hdone hb hj hr
      go_wp2_with (refine wpList_bytesStr rfl 68 9 5 _ rfl Try.underlying68 Try.underlying5 Try.underlying9 w.heap.size 0 64 64 rfl (List.replicate 64 c) (List.length_replicate ..) HR.out ?_)
      go_ret
      exact ⟨rfl, HB.out⟩

theorem ret_bool {a b : Bool} (h : a = b) : Ending.returned (.bool a) = Ending.returned (.bool b) := by rw [h]
theorem texts_ne {w : World} {S T : List Nat} {va vb : Value} {la lb : List (List UInt8)} (ha : StrsIn w S va la) (hb : StrsIn w T vb lb) (hl : ((la.length : Int) != lb.length) = true) :
    Calls Try.prog 16 #[va, vb] w fun e w' => e = .returned (.bool false) ∧ Fr [] w w' := by
  obtain ⟨a, ca, rfl⟩ := ha.cells
  obtain ⟨b, cb, rfl⟩ := hb.cells
  clear ha hb
  go_enter Try.func16, Try.ntmps16
  go_wp2
  go_ret
  exact ⟨rfl, Fr.refl _ _⟩

attribute [local irreducible] Go.wpStill

set_option maxHeartbeats 400000 in
set_option maxRecDepth 100000 in
theorem texts_loop {w : World} {S T : List Nat} {a b : Option Addr} {n ca cb : Nat} {la lb : List (List UInt8)} (hla : Hid (la.length = n)) (hlb : Hid (lb.length = n)) (hn : (n : Int) < 60000) (ha : Hid (StrsIn w S (.slice a n ca) la)) (hb : Hid (StrsIn w T (.slice b n cb) lb)) :
    Calls Try.prog 16 #[.slice a n ca, .slice b n cb] w fun e w' => e = .returned (.bool (decide (la = lb))) ∧ Fr [] w w' := by
  go_enter Try.func16, Try.ntmps16
  go_wp2
  go_loopw [5] (fun iv wr => ∃ j : Nat, j ≤ n ∧ iv = .int .i64 j ∧ (∀ i, i < j → la[i]? = lb[i]?) ∧ Fr [] w wr) (fun iv _ => n - (intOf iv).toNat)
  case atStart => exact ⟨0, by omega, rfl, by omega, Fr.refl _ _⟩
  case round =>
    obtain ⟨j, hj, rfl, hdone, hf⟩ := hrel
    by_cases hlt : j < n
    · have hj5 : (j : Int) < n := by omega
      have hj6 : (j : Int) < 60000 := by omega
      have hja : j < la.length := by rw [hla.out]; exact hlt
      have hjb : j < lb.length := by rw [hlb.out]; exact hlt
      obtain ⟨ba, oa, c1, e1⟩ := ha.out.place (by intro e; rw [e] at hja; simp at hja)
      obtain ⟨bb, ob, c2, e2⟩ := hb.out.place (by intro e; rw [e] at hjb; simp at hjb)
      have e3 := (Value.slice.inj e1).1
      have e4 := (Value.slice.inj e2).1
      clear e1 e2
      subst e3
      subst e4
      have ha1 := (ha.out.at (List.getElem?_eq_getElem hja))
      have hb1 := (hb.out.at (List.getElem?_eq_getElem hjb))
      have ha2 : wr.cell? ⟨ba, oa + j, none⟩ = some (.string ⟨la[j].toArray⟩) := by rw [← strV, ← ha1]; exact World.cell?_of_block (w := w) (hf.block ba (lt_of_cell ha1) (by simp)) 
      have hb2 : wr.cell? ⟨bb, ob + j, none⟩ = some (.string ⟨lb[j].toArray⟩) := by rw [← strV, ← hb1]; exact World.cell?_of_block (w := w) (hf.block bb (lt_of_cell hb1) (by simp)) 
      have HA := Lib.hid (List.getElem?_eq_getElem hja)
      have HB := Lib.hid (List.getElem?_eq_getElem hjb)
      have HD := Lib.hid hdone
      have HF := Lib.hid hf
      generalize la[j] = x at *
      generalize lb[j] = y at *
      clear ha1 hb1 hdone hf hja hjb
      by_cases hxy : x = y
      · subst hxy
        go_wp2
        refine wp_region_still_lit (by kernel_rfl) (by kernel_rfl) ?_
        repeat still_step
        refine wpStill_nil ?_
        rw [World.drew_eq]
        go_wp2
        go_roundw
        case rel => exact ⟨j + 1, by omega, by go_num, fun i hi => (Nat.lt_succ_iff_lt_or_eq.1 hi).elim (HD.out i) (fun e => by rw [e, HA.out, HB.out]), HF.out.drew⟩
        case measure => simp [intOf]; omega
      · have hxb : (x == y) = false := by simpa using hxy
        have hdec : decide (la = lb) = false := by
          rw [decide_eq_false_iff_not]
          intro e
          rw [e, HB.out] at HA
          exact hxy (Option.some.inj HA.out).symm
        have HDE := Lib.hid hdec
        clear hxy hdec
        go_wp2
        refine wp_region_still_lit (by kernel_rfl) (by kernel_rfl) ?_
        repeat still_step
        refine wpStill_nil ?_
        rw [World.drew_eq]
        go_wp2
        go_ret
        exact ⟨ret_bool HDE.out.symm, HF.out.drew⟩
    · obtain rfl : j = n := by omega
      have hdec : decide (la = lb) = true := by
        rw [decide_eq_true_eq]
        apply List.ext_getElem?
        intro i
        by_cases hi : i < j
        · exact hdone i hi
        · rw [List.getElem?_eq_none (by rw [hla.out]; omega), List.getElem?_eq_none (by rw [hlb.out]; omega)]
      have HDE := Lib.hid hdec
      have HF := Lib.hid hf
      clear hdec hdone hf
      go_wp2
      go_ret
      exact ⟨ret_bool HDE.out.symm, HF.out⟩

theorem texts_any {w : World} {S T : List Nat} {va vb : Value} {la lb : List (List UInt8)} (ha : StrsIn w S va la) (hb : StrsIn w T vb lb) (hn : la.length < 60000) :
    Calls Try.prog 16 #[va, vb] w fun e w' => e = .returned (.bool (decide (la = lb))) ∧ Fr [] w w' := by
  by_cases hl : la.length = lb.length
  · obtain ⟨a, ca, rfl⟩ := ha.cells
    obtain ⟨b, cb, rfl⟩ := hb.cells
    rw [← hl] at hb ⊢
    exact texts_loop rfl hl.symm (by omega) ha hb
  · have e : decide (la = lb) = false := by rw [decide_eq_false_iff_not]; intro e; exact hl (by rw [e])
    rw [e]
    exact texts_ne ha hb (by rw [bne_iff_ne]; omega)
end Go.Proofs.Ytoefpnmfeaimlaa
